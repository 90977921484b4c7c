/- A heap in a list: what rises, and what sinks. Plain Lean. -/
namespace Go.Det.Hp
variable {α : Type}

/-- a is less than b. -/
structure Lt (lt : α → α → Bool) : Prop where
  irr : ∀ a, lt a a = false
  tr : ∀ a b c, lt a b = true → lt b c = true → lt a c = true
  tot : ∀ a b, lt a b = false → lt b a = false → a = b
theorem Lt.le_tr {lt : α → α → Bool} (h : Lt lt) {a b c : α} (h1 : lt b a = false) (h2 : lt c b = false) : lt c a = false := by
  cases h3 : lt c a with
  | false => rfl
  | true =>
    cases h4 : lt a b with
    | true => rw [h.tr _ _ _ h3 h4] at h2; cases h2
    | false => rw [h.tot a b h4 h1] at h3; rw [h3] at h2; cases h2
theorem Lt.asym {lt : α → α → Bool} (h : Lt lt) {a b : α} (h1 : lt a b = true) : lt b a = false := by
  cases h2 : lt b a with
  | false => rfl
  | true => rw [← h.irr a, h.tr _ _ _ h1 h2]

def swap (l : List α) (i j : Nat) (hi : i < l.length) (hj : j < l.length) : List α := (l.set i l[j]).set j l[i]
theorem swap_length (l : List α) (i j : Nat) (hi : i < l.length) (hj : j < l.length) : (swap l i j hi hj).length = l.length := by simp [swap]
theorem swap_perm (l : List α) (i j : Nat) (hi : i < l.length) (hj : j < l.length) : (swap l i j hi hj).Perm l := List.set_set_perm hi hj
theorem swap_get (l : List α) (i j : Nat) (hi : i < l.length) (hj : j < l.length) (k : Nat) (hk : k < (swap l i j hi hj).length) : (swap l i j hi hj)[k] = if k = j then l[i] else if k = i then l[j] else l[k]'(by rw [swap_length] at hk; exact hk) := by
  simp only [swap, List.getElem_set]
  by_cases h1 : j = k
  · subst h1; simp
  · rw [if_neg h1, if_neg (Ne.symm h1)]
    by_cases h2 : i = k
    · subst h2; simp
    · rw [if_neg h2, if_neg (Ne.symm h2)]

/-- No parent is less than its child; the pairs of one child are left out. -/
def HeapUp (lt : α → α → Bool) (l : List α) (x : Nat) : Prop :=
  (∀ j (hj : j < l.length), 0 < j → j ≠ x → lt (l[(j - 1) / 2]'(by omega)) l[j] = false) ∧
  (∀ j (hj : j < l.length), 0 < j → ∀ (he : (j - 1) / 2 = x) (hx : 0 < x), lt (l[(x - 1) / 2]'(by omega)) l[j] = false)
def Heap (lt : α → α → Bool) (l : List α) : Prop := ∀ j (hj : j < l.length), 0 < j → lt (l[(j - 1) / 2]'(by omega)) l[j] = false
theorem Heap.up {lt : α → α → Bool} {l : List α} (h : Heap lt l) (a : α) : HeapUp lt (l ++ [a]) l.length := by
  refine ⟨fun j hj h0 hn => ?_, fun j hj h0 he => ?_⟩
  · have hlt : j < l.length := by simp at hj; omega
    rw [List.getElem_append_left hlt, List.getElem_append_left (by omega)]
    exact h j hlt h0
  · simp at hj; omega
theorem HeapUp.done {lt : α → α → Bool} {l : List α} {x : Nat} (h : HeapUp lt l x) (hx : x < l.length) (hd : x = 0 ∨ lt (l[(x - 1) / 2]'(by omega)) l[x] = false) : Heap lt l := by
  intro j hj h0
  by_cases e : j = x
  · subst e
    rcases hd with hd | hd
    · omega
    · exact hd
  · exact h.1 j hj h0 e
theorem HeapUp.step {lt : α → α → Bool} (ho : Lt lt) {l : List α} {x : Nat} (h : HeapUp lt l x) (hx : x < l.length) (h0 : 0 < x) (hl : lt (l[(x - 1) / 2]'(by omega)) l[x] = true) :
    HeapUp lt (swap l ((x - 1) / 2) x (by omega) hx) ((x - 1) / 2) := by
  have hp : (x - 1) / 2 < l.length := by omega
  have g := swap_get l ((x - 1) / 2) x hp hx
  have hlen := swap_length l ((x - 1) / 2) x hp hx
  have hpx : (x - 1) / 2 ≠ x := by omega
  refine ⟨fun j hj hj0 hn => ?_, fun j hj hj0 he hp0 => ?_⟩
  · have hj' : j < l.length := by omega
    rw [g, g]
    by_cases e : j = x
    · subst e
      rw [if_neg hpx, if_pos rfl, if_pos rfl]
      exact ho.asym hl
    · rw [if_neg e, if_neg hn]
      by_cases e2 : (j - 1) / 2 = x
      · rw [if_pos e2]
        exact h.2 j hj' hj0 e2 h0
      · rw [if_neg e2]
        by_cases e3 : (j - 1) / 2 = (x - 1) / 2
        · rw [if_pos e3]
          have h1 := h.1 j hj' hj0 e
          have : lt (l[(x - 1) / 2]) l[j] = false := by simpa [e3] using h1
          cases q2 : lt l[x] l[j] with
          | false => rfl
          | true => rw [ho.tr _ _ _ hl q2] at this; cases this
        · rw [if_neg e3]
          exact h.1 j hj' hj0 e
  · have hj' : j < l.length := by omega
    have hgp : ((x - 1) / 2 - 1) / 2 < l.length := by omega
    rw [g, g]
    have n1 : ((x - 1) / 2 - 1) / 2 ≠ x := by omega
    have n2 : ((x - 1) / 2 - 1) / 2 ≠ (x - 1) / 2 := by omega
    have hgx : lt (l[((x - 1) / 2 - 1) / 2]) (l[(x - 1) / 2]) = false := h.1 ((x - 1) / 2) hp hp0 hpx
    rw [if_neg n1, if_neg n2]
    by_cases e : j = x
    · subst e
      rw [if_pos rfl]
      exact hgx
    · rw [if_neg e, if_neg (by omega)]
      have h1 := h.1 j hj' hj0 e
      have h2 : lt (l[(x - 1) / 2]) l[j] = false := by simpa [he] using h1
      cases q : lt (l[((x - 1) / 2 - 1) / 2]) l[j] with
      | false => rfl
      | true =>
        cases q2 : lt (l[(x - 1) / 2]) (l[((x - 1) / 2 - 1) / 2]) with
        | true => rw [ho.tr _ _ _ q2 q] at h2; cases h2
        | false => rw [ho.tot _ _ hgx q2] at q; rw [q] at h2; cases h2

/-- What sinks: the pairs of one parent are left out. -/
def HeapDown (lt : α → α → Bool) (l : List α) (x : Nat) : Prop :=
  (∀ j (hj : j < l.length), 0 < j → (j - 1) / 2 ≠ x → lt (l[(j - 1) / 2]'(by omega)) l[j] = false) ∧
  (∀ j (hj : j < l.length), 0 < j → ∀ (he : (j - 1) / 2 = x) (hx : 0 < x), lt (l[(x - 1) / 2]'(by omega)) l[j] = false)
theorem Heap.down {lt : α → α → Bool} {l : List α} (h : Heap lt l) (a : α) : HeapDown lt (l.set 0 a) 0 := by
  refine ⟨fun j hj h0 hn => ?_, fun j hj h0 he hx => by omega⟩
  have hj' : j < l.length := by simpa using hj
  rw [List.getElem_set, List.getElem_set, if_neg (Ne.symm hn), if_neg (by omega)]
  exact h j hj' h0
theorem HeapDown.done {lt : α → α → Bool} {l : List α} {x : Nat} (h : HeapDown lt l x) (hd : ∀ j (hj : j < l.length), 0 < j → (j - 1) / 2 = x → lt (l[(j - 1) / 2]'(by omega)) l[j] = false) : Heap lt l := by
  intro j hj h0
  by_cases e : (j - 1) / 2 = x
  · exact hd j hj h0 e
  · exact h.1 j hj h0 e
/-- k is the greater child. -/
theorem HeapDown.step {lt : α → α → Bool} (ho : Lt lt) {l : List α} {x k : Nat} (h : HeapDown lt l x) (hk : k < l.length) (h0 : 0 < k) (hp : (k - 1) / 2 = x) (hx : x < l.length) (hg : ∀ j (hj : j < l.length), 0 < j → (j - 1) / 2 = x → lt l[k] l[j] = false) (hl : lt l[x] l[k] = true) :
    HeapDown lt (swap l x k hx hk) k := by
  have g := swap_get l x k hx hk
  have hlen := swap_length l x k hx hk
  have hxk : x ≠ k := by omega
  refine ⟨fun j hj hj0 hn => ?_, fun j hj hj0 he hk0 => ?_⟩
  · have hj' : j < l.length := by omega
    rw [g, g, if_neg hn]
    by_cases e2 : (j - 1) / 2 = x
    · rw [if_pos e2]
      by_cases e : j = k
      · rw [if_pos e]; exact ho.asym hl
      · rw [if_neg e, if_neg (by omega)]; exact hg j hj' hj0 e2
    · rw [if_neg e2]
      by_cases e : j = k
      · subst e; exact absurd hp e2
      · rw [if_neg e]
        by_cases e3 : j = x
        · subst e3
          rw [if_pos rfl]
          exact h.2 k hk h0 hp hj0
        · rw [if_neg e3]; exact h.1 j hj' hj0 e2
  · have hj' : j < l.length := by omega
    rw [g, g, if_neg (by omega), if_pos hp, if_neg (by omega), if_neg (by omega)]
    have := h.1 j hj' hj0 (by omega)
    simpa [he] using this

theorem Heap.root {lt : α → α → Bool} (ho : Lt lt) {l : List α} (h : Heap lt l) : ∀ j (hj : j < l.length), lt (l[0]'(by omega)) l[j] = false
  | 0, hj => ho.irr _
  | j + 1, hj => by
    have h1 := h (j + 1) hj (by omega)
    have h2 := Heap.root ho h ((j + 1 - 1) / 2) (by omega)
    cases q : lt (l[0]'(by omega)) l[j + 1] with
    | false => rfl
    | true =>
      cases q2 : lt (l[(j + 1 - 1) / 2]'(by omega)) (l[0]'(by omega)) with
      | true => rw [ho.tr _ _ _ q2 q] at h1; cases h1
      | false => rw [ho.tot _ _ h2 q2] at q; rw [q] at h1; cases h1
termination_by j => j
decreasing_by omega

end Go.Det.Hp
