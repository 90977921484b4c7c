/- Stable sorting: merging, and what a merge by rotation comes to. Plain Lean. -/
import Derived.Test.YteehkdejkemnmabDoorDvUse
set_option linter.unusedVariables false
set_option linter.unusedSimpArgs false
namespace Go.Det.Stab
variable {α : Type}

/-- A comparison by which one may sort. -/
structure Weak (lt : α → α → Bool) : Prop where
  irr : ∀ a, lt a a = false
  tr : ∀ a b c, lt a b = true → lt b c = true → lt a c = true
  ntr : ∀ a b c, lt a b = false → lt b c = false → lt a c = false
theorem Weak.asym {lt : α → α → Bool} (w : Weak lt) {a b : α} (h : lt a b = true) : lt b a = false := by
  cases c : lt b a with
  | false => rfl
  | true => have := w.tr _ _ _ h c; rw [w.irr] at this; cases this
/-- Merged; of equal ones those of the first list come first. -/
def mg (lt : α → α → Bool) : List α → List α → List α
  | [], ys => ys
  | x :: xs, [] => x :: xs
  | x :: xs, y :: ys => if lt y x = true then y :: mg lt (x :: xs) ys else x :: mg lt xs (y :: ys)
termination_by a b => a.length + b.length
variable {lt : α → α → Bool}
theorem mg_nil (ys : List α) : mg lt [] ys = ys := by rw [mg]
theorem mg_nil' (xs : List α) : mg lt xs [] = xs := by cases xs <;> rw [mg]
theorem mg_cons (x y : α) (xs ys : List α) : mg lt (x :: xs) (y :: ys) = if lt y x = true then y :: mg lt (x :: xs) ys else x :: mg lt xs (y :: ys) := by rw [mg]
theorem mg_perm : ∀ (n : Nat) (a b : List α), a.length + b.length ≤ n → (mg lt a b).Perm (a ++ b)
  | n, [], b, _ => by rw [mg_nil]; exact List.Perm.refl _
  | n, x :: xs, [], _ => by rw [mg_nil', List.append_nil]
  | 0, x :: xs, y :: ys, h => by simp at h
  | n + 1, x :: xs, y :: ys, h => by
    rw [mg_cons]
    split
    · refine (List.Perm.cons y (mg_perm n (x :: xs) ys (by simp at h ⊢; omega))).trans ?_
      exact (List.perm_middle (l₁ := x :: xs) (l₂ := ys) (a := y)).symm
    · exact List.Perm.cons x (mg_perm n xs (y :: ys) (by simp at h ⊢; omega))
theorem mg_len (a b : List α) : (mg lt a b).length = a.length + b.length := by
  rw [(mg_perm _ a b (Nat.le_refl _)).length_eq, List.length_append]
def Srt (lt : α → α → Bool) (l : List α) : Prop := l.Pairwise fun a b => lt b a = false
theorem mg_srt (w : Weak lt) : ∀ (n : Nat) (a b : List α), a.length + b.length ≤ n → Srt lt a → Srt lt b → Srt lt (mg lt a b)
  | n, [], b, _, _, hb => by rw [mg_nil]; exact hb
  | n, x :: xs, [], _, ha, _ => by rw [mg_nil']; exact ha
  | 0, x :: xs, y :: ys, h, _, _ => by simp at h
  | n + 1, x :: xs, y :: ys, h, ha, hb => by
    rw [mg_cons]
    have ha' := List.pairwise_cons.1 ha
    have hb' := List.pairwise_cons.1 hb
    split
    · rename_i c
      refine List.pairwise_cons.2 ⟨fun z hz => ?_, mg_srt w n (x :: xs) ys (by simp at h ⊢; omega) ha hb'.2⟩
      rcases List.mem_append.1 ((mg_perm _ (x :: xs) ys (Nat.le_refl _)).mem_iff.1 hz) with hz | hz
      · rcases List.mem_cons.1 hz with rfl | hz
        · exact w.asym c
        · exact w.ntr _ _ _ (ha'.1 z hz) (w.asym c)
      · exact hb'.1 z hz
    · rename_i c
      have c' : lt y x = false := by simpa using c
      refine List.pairwise_cons.2 ⟨fun z hz => ?_, mg_srt w n xs (y :: ys) (by simp at h ⊢; omega) ha'.2 hb⟩
      rcases List.mem_append.1 ((mg_perm _ xs (y :: ys) (Nat.le_refl _)).mem_iff.1 hz) with hz | hz
      · exact ha'.1 z hz
      · rcases List.mem_cons.1 hz with rfl | hz
        · exact c'
        · exact w.ntr _ _ _ (hb'.1 z hz) c'
/-- What lies apart is merged apart. -/
theorem mg_split : ∀ (n : Nat) (a1 b1 a2 b2 : List α), a1.length + b1.length ≤ n → (∀ x ∈ a1, ∀ y ∈ b2, lt y x = false) → (∀ y ∈ b1, ∀ x ∈ a2, lt y x = true) → mg lt (a1 ++ a2) (b1 ++ b2) = mg lt a1 b1 ++ mg lt a2 b2
  | n, [], [], a2, b2, _, _, _ => by simp [mg_nil]
  | n, [], y :: b1, [], b2, _, _, _ => by simp [mg_nil]
  | 0, [], y :: b1, x :: a2, b2, h, _, _ => by simp at h
  | n + 1, [], y :: b1, x :: a2, b2, h, h1, h2 => by
    have := mg_split n [] b1 (x :: a2) b2 (by simp at h ⊢; omega) h1 (fun y hy => h2 y (by simp [hy]))
    simp only [List.nil_append, mg_nil] at this ⊢
    rw [List.cons_append, mg_cons, if_pos (h2 y (by simp) x (by simp)), this, List.cons_append]
  | 0, x :: a1, b1, a2, b2, h, _, _ => by simp at h
  | n + 1, x :: a1, [], a2, [], h, _, _ => by simp [mg_nil']
  | n + 1, x :: a1, [], a2, y :: b2, h, h1, h2 => by
    have := mg_split n a1 [] a2 (y :: b2) (by simp at h ⊢; omega) (fun x hx => h1 x (by simp [hx])) h2
    simp only [List.nil_append, mg_nil'] at this ⊢
    rw [List.cons_append, mg_cons, if_neg (by rw [h1 x (by simp) y (by simp)]; simp), this, List.cons_append]
  | n + 1, x :: a1, y :: b1, a2, b2, h, h1, h2 => by
    rw [List.cons_append, List.cons_append, mg_cons, mg_cons]
    split
    · have := mg_split n (x :: a1) b1 a2 b2 (by simp at h ⊢; omega) h1 (fun y hy => h2 y (by simp [hy]))
      rw [List.cons_append] at this
      rw [this, List.cons_append]
    · have := mg_split n a1 (y :: b1) a2 b2 (by simp at h ⊢; omega) (fun x hx => h1 x (by simp [hx])) h2
      rw [List.cons_append] at this
      rw [this, List.cons_append]
theorem mg_assoc (w : Weak lt) : ∀ (n : Nat) (a b c : List α), a.length + b.length + c.length ≤ n → mg lt (mg lt a b) c = mg lt a (mg lt b c)
  | n, [], b, c, _ => by rw [mg_nil, mg_nil]
  | n, x :: a, [], c, _ => by rw [mg_nil', mg_nil]
  | n, x :: a, y :: b, [], _ => by rw [mg_nil', mg_nil']
  | 0, x :: a, y :: b, z :: c, h => by simp at h
  | n + 1, x :: a, y :: b, z :: c, h => by
    simp only [List.length_cons] at h
    rw [mg_cons x y, mg_cons y z]
    by_cases h1 : lt y x = true
    · rw [if_pos h1]
      by_cases h2 : lt z y = true
      · have h3 := w.tr _ _ _ h2 h1
        rw [if_pos h2, mg_cons, if_pos h2, mg_cons, if_pos h3]
        have := mg_assoc w n (x :: a) (y :: b) c (by simp; omega)
        rw [mg_cons, if_pos h1] at this
        rw [this]
      · rw [if_neg h2, mg_cons, if_neg h2, mg_cons, if_pos h1]
        rw [mg_assoc w n (x :: a) b (z :: c) (by simp; omega)]
    · rw [if_neg h1]
      by_cases h2 : lt z y = true
      · rw [if_pos h2]
        by_cases h3 : lt z x = true
        · rw [mg_cons, if_pos h3, mg_cons, if_pos h3]
          have := mg_assoc w n (x :: a) (y :: b) c (by simp; omega)
          rw [mg_cons, if_neg h1] at this
          rw [this]
        · rw [mg_cons, if_neg h3, mg_cons, if_neg h3]
          have := mg_assoc w n a (y :: b) (z :: c) (by simp; omega)
          rw [mg_cons y z, if_pos h2] at this
          rw [this]
      · have h3 : ¬ lt z x = true := by
          have e1 : lt z y = false := by simpa using h2
          have e2 : lt y x = false := by simpa using h1
          rw [w.ntr _ _ _ e1 e2]; simp
        rw [if_neg h2, mg_cons, if_neg h3, mg_cons, if_neg h1]
        have := mg_assoc w n a (y :: b) (z :: c) (by simp; omega)
        rw [mg_cons y z, if_neg h2] at this
        rw [this]
theorem mg_one {x : α} : ∀ {b : List α}, (∀ y ∈ b, lt y x = false) → mg lt [x] b = x :: b
  | [], _ => by rw [mg_nil']
  | y :: b, h => by rw [mg_cons, if_neg (by rw [h y (by simp)]; simp), mg_nil]
theorem mg_one' {y : α} : ∀ {a : List α}, (∀ x ∈ a, lt y x = true) → mg lt a [y] = y :: a
  | [], _ => by rw [mg_nil]
  | x :: a, h => by rw [mg_cons, if_pos (h x (by simp)), mg_nil']

theorem snocRec {p : List α → Prop} (nil : p []) (snoc : ∀ (b : List α) (x : α), p b → p (b ++ [x])) (l : List α) : p l := by
  have : ∀ l : List α, p l.reverse := fun l => by
    induction l with
    | nil => exact nil
    | cons x l ih => rw [List.reverse_cons]; exact snoc _ _ ih
  have h := this l.reverse
  rwa [List.reverse_reverse] at h
/-- The stable sort: one after the other is put in, behind all that it is not less than. -/
def sort (lt : α → α → Bool) (l : List α) : List α := l.foldl (fun acc x => mg lt acc [x]) []
theorem sort_snoc (l : List α) (x : α) : sort lt (l ++ [x]) = mg lt (sort lt l) [x] := by
  rw [sort, List.foldl_append]; rfl
theorem sort_nil : sort lt ([] : List α) = [] := rfl
theorem sort_app (w : Weak lt) (a : List α) : ∀ b : List α, mg lt (sort lt a) (sort lt b) = sort lt (a ++ b) := by
  intro b
  induction b using snocRec with
  | nil => rw [sort_nil, mg_nil', List.append_nil]
  | snoc b x ih => rw [sort_snoc, ← List.append_assoc, sort_snoc, ← ih, mg_assoc w _ _ _ _ (Nat.le_refl _)]
theorem sort_perm (l : List α) : (sort lt l).Perm l := by
  induction l using snocRec with
  | nil => exact List.Perm.refl _
  | snoc b x ih => rw [sort_snoc]; exact (mg_perm _ _ _ (Nat.le_refl _)).trans (ih.append_right _)
theorem sort_srt (w : Weak lt) (l : List α) : Srt lt (sort lt l) := by
  induction l using snocRec with
  | nil => exact List.Pairwise.nil
  | snoc b x ih => rw [sort_snoc]; exact mg_srt w _ _ _ (Nat.le_refl _) ih (List.pairwise_singleton _ _)
theorem sort_len (l : List α) : (sort lt l).length = l.length := (sort_perm l).length_eq
/-- What is in order stays. -/
theorem sort_id : ∀ {l : List α}, Srt lt l → sort lt l = l := by
  intro l
  induction l using snocRec with
  | nil => intro _; rfl
  | snoc b x ih =>
    intro h
    have h' := List.pairwise_append.1 h
    rw [sort_snoc, ih h'.1]
    have := mg_split (lt := lt) _ b [] [] [x] (Nat.le_refl _) (fun y hy z hz => by simp at hz; subst hz; exact h'.2.2 y hy z (by simp)) (fun y hy => by cases hy)
    simpa [mg_nil, mg_nil'] using this
/-- The first ones of what is merged are merged of the first ones. -/
theorem mg_take : ∀ (k : Nat) (a b : List α) (i j : Nat), k ≤ i → k ≤ j → (mg lt (a.take i) (b.take j)).take k = (mg lt a b).take k
  | 0, a, b, i, j, _, _ => by simp
  | k + 1, [], b, i, j, _, hj => by simp only [List.take_nil, mg_nil, List.take_take]; congr 1; omega
  | k + 1, x :: a, [], i, j, hi, _ => by simp only [List.take_nil, mg_nil', List.take_take]; congr 1; omega
  | k + 1, x :: a, y :: b, i + 1, j + 1, hi, hj => by
    simp only [List.take_succ_cons, mg_cons]
    split
    · have := mg_take k (x :: a) b (i + 1) j (by omega) (by omega)
      simp only [List.take_succ_cons] at this ⊢
      rw [this]
    · have := mg_take k a (y :: b) i (j + 1) (by omega) (by omega)
      simp only [List.take_succ_cons] at this ⊢
      rw [this]
  | k + 1, x :: a, y :: b, 0, j, hi, _ => by omega
  | k + 1, x :: a, y :: b, i + 1, 0, _, hj => by omega
theorem Srt.get {l : List α} (w : Weak lt) (h : Srt lt l) {i j : Nat} (hi : i < l.length) (hj : j < l.length) (hij : i ≤ j) : lt l[j] l[i] = false := by
  rcases Nat.lt_or_ge i j with c | c
  · exact List.pairwise_iff_getElem.1 h i j hi hj c
  · obtain rfl : i = j := by omega
    exact w.irr _
end Go.Det.Stab
/- Stable sorting: swaps, rotation, merging in place. Plain Lean. -/
set_option linter.unusedVariables false
set_option linter.unusedSimpArgs false
namespace Go.Det.Stab
variable {α : Type} {lt : α → α → Bool}

def sw (l : List α) (i j : Nat) : List α := match l[i]?, l[j]? with | some x, some y => (l.set i y).set j x | _, _ => l
theorem sw_eq {l : List α} {i j : Nat} (hi : i < l.length) (hj : j < l.length) : sw l i j = (l.set i l[j]).set j l[i] := by simp [sw, hi, hj]
theorem sw_len (l : List α) (i j : Nat) : (sw l i j).length = l.length := by unfold sw; split <;> simp
theorem sw_cons (p : α) (l : List α) (i j : Nat) : sw (p :: l) (i + 1) (j + 1) = p :: sw l i j := by
  simp only [sw, List.getElem?_cons_succ, List.set_cons_succ]
  split <;> rfl
theorem sw_symm (l : List α) (i j : Nat) : sw l i j = sw l j i := by
  unfold sw
  cases h1 : l[i]? with
  | none => cases h2 : l[j]? <;> rfl
  | some x =>
    cases h2 : l[j]? with
    | none => rfl
    | some y =>
      by_cases e : i = j
      · subst e; rw [h1] at h2; injection h2 with h2; subst h2; rfl
      · simp only; rw [List.set_comm _ _ e]
theorem set_mid (M S : List α) (x y : α) : (M ++ y :: S).set M.length x = M ++ x :: S := by
  induction M with
  | nil => rfl
  | cons a M ih => simp [ih]
theorem get_mid (M S : List α) (y : α) : (M ++ y :: S)[M.length]? = some y := by simp
theorem sw_app (P M S : List α) (x y : α) : sw (P ++ x :: (M ++ y :: S)) P.length (P.length + 1 + M.length) = P ++ y :: (M ++ x :: S) := by
  induction P with
  | nil =>
    show sw (x :: (M ++ y :: S)) 0 (0 + 1 + M.length) = y :: (M ++ x :: S)
    rw [show 0 + 1 + M.length = M.length + 1 by omega]
    unfold sw
    simp only [List.getElem?_cons_zero, List.getElem?_cons_succ, get_mid, List.set_cons_zero, List.set_cons_succ, set_mid]
  | cons p P ih =>
    rw [List.cons_append, List.length_cons, show P.length + 1 + 1 + M.length = (P.length + 1 + M.length) + 1 by omega, sw_cons, ih, List.cons_append]
theorem sw_adj (P S : List α) (x y : α) : sw (P ++ x :: y :: S) P.length (P.length + 1) = P ++ y :: x :: S := sw_app P [] S x y

theorem cut {l : List α} {a : Nat} (h : a ≤ l.length) : ∃ P S, l = P ++ S ∧ P.length = a := ⟨l.take a, l.drop a, (List.take_append_drop _ _).symm, by rw [List.length_take]; omega⟩
theorem cutR {l : List α} {a : Nat} (h : a ≤ l.length) : ∃ P S, l = P ++ S ∧ S.length = a := by
  obtain ⟨P, S, e, h1⟩ := cut (l := l) (a := l.length - a) (by omega)
  exact ⟨P, S, e, by have := congrArg List.length e; rw [List.length_append] at this; omega⟩
theorem ne_cons {l : List α} {n : Nat} (h : l.length = n) (hn : 0 < n) : ∃ x l', l = x :: l' ∧ l'.length = n - 1 := by
  cases l with
  | nil => simp at h; omega
  | cons x l => exact ⟨x, l, rfl, by simp at h; omega⟩
theorem ne_snoc {l : List α} {n : Nat} (h : l.length = n) (hn : 0 < n) : ∃ x l', l = l' ++ [x] ∧ l'.length = n - 1 := by
  obtain ⟨P, S, e, h1⟩ := cutR (l := l) (a := 1) (by omega)
  obtain ⟨x, S', rfl, h2⟩ := ne_cons h1 (by omega)
  obtain rfl : S' = [] := List.length_eq_zero_iff.1 (by omega)
  exact ⟨x, P, e, by have := congrArg List.length e; rw [List.length_append] at this; simp at this; omega⟩

/-! Ranges that are swapped. -/
def SwapR (l : List α) (a b n : Nat) (l2 : List α) : Prop := ∀ P X M Y S, l = P ++ (X ++ (M ++ (Y ++ S))) → P.length = a → X.length = n → a + n + M.length = b → Y.length = n → l2 = P ++ (Y ++ (M ++ (X ++ S)))
theorem SwapR.zero (l : List α) (a b : Nat) : SwapR l a b 0 l := by
  intro P X M Y S e _ hx _ hy
  obtain rfl := List.length_eq_zero_iff.1 hx
  obtain rfl := List.length_eq_zero_iff.1 hy
  simpa using e
theorem SwapR.step {l l2 : List α} {a b n : Nat} (hn : 0 < n) (h : SwapR (sw l a b) (a + 1) (b + 1) (n - 1) l2) : SwapR l a b n l2 := by
  intro P X M Y S e hp hx hm hy
  obtain ⟨x, X, rfl, hx2⟩ := ne_cons hx hn
  obtain ⟨y, Y, rfl, hy2⟩ := ne_cons hy hn
  have e2 : sw l a b = P ++ y :: ((X ++ M) ++ x :: (Y ++ S)) := by
    rw [e, ← hp, show b = P.length + 1 + (X ++ M).length by rw [List.length_append]; omega]
    have := sw_app P (X ++ M) (Y ++ S) x y
    rw [← this]; congr 1; simp
  have := h (P ++ [y]) X (M ++ [x]) Y S (by rw [e2]; simp) (by simp [hp]) hx2 (by simp; omega) hy2
  rw [this]; simp
/-! Rotation. -/
def RotR (l : List α) (a m b : Nat) (l2 : List α) : Prop := ∀ P X Y S, l = P ++ (X ++ (Y ++ S)) → P.length = a → a + X.length = m → m + Y.length = b → l2 = P ++ (Y ++ (X ++ S))
theorem RotR.last {l l2 : List α} {i m : Nat} (hi : i ≤ m) (h : SwapR l (m - i) m i l2) : RotR l (m - i) m (m + i) l2 := by
  intro P X Y S e hp hx hy
  exact h P X [] Y S (by simpa using e) hp (by omega) (by simp; omega) (by omega)
theorem RotR.left {l l' l2 : List α} {i j m : Nat} (hi : i ≤ m) (hij : j < i) (h : SwapR l (m - i) m j l') (h2 : RotR l' (m - (i - j)) m (m + j) l2) : RotR l (m - i) m (m + j) l2 := by
  intro P X Y S e hp hx hy
  obtain ⟨X1, X2, rfl, h1⟩ := cut (l := X) (a := j) (by omega)
  rw [List.length_append] at hx
  have e2 := h P X1 X2 Y S (by rw [e]; simp) hp h1 (by omega) (by omega)
  have := h2 (P ++ Y) X2 X1 S (by rw [e2]; simp) (by simp; omega) (by omega) (by omega)
  rw [this]; simp
theorem RotR.right {l l' l2 : List α} {i j m : Nat} (hi : i ≤ m) (hij : i < j) (h : SwapR l (m - i) (m + j - i) i l') (h2 : RotR l' (m - i) m (m + (j - i)) l2) : RotR l (m - i) m (m + j) l2 := by
  intro P X Y S e hp hx hy
  obtain ⟨Y1, Y2, rfl, h1⟩ := cutR (l := Y) (a := i) (by omega)
  rw [List.length_append] at hy
  have e2 := h P X Y1 Y2 S (by rw [e]; simp) hp (by omega) (by omega) h1
  have := h2 P Y2 Y1 (X ++ S) (by rw [e2]) hp (by omega) (by omega)
  rw [this]; simp
/-! One that wanders. -/
def MoveR (l : List α) (k e : Nat) (l2 : List α) : Prop := ∀ P x X S, l = P ++ x :: (X ++ S) → P.length = k → k + X.length = e → l2 = P ++ (X ++ x :: S)
theorem MoveR.zero {l : List α} {k e : Nat} (h : e ≤ k) : MoveR l k e l := by
  intro P x X S el hp hx
  obtain rfl : X = [] := List.length_eq_zero_iff.1 (by omega)
  simpa using el
theorem MoveR.step {l l2 : List α} {k e : Nat} (hk : k < e) (h : MoveR (sw l k (k + 1)) (k + 1) e l2) : MoveR l k e l2 := by
  intro P x X S el hp hx
  obtain ⟨y, X, rfl, hx2⟩ := ne_cons (l := X) rfl (by omega)
  have := h (P ++ [y]) x X S (by rw [el, ← hp]; simpa using sw_adj P (X ++ S) x y) (by simp [hp]) (by simp at hx; omega)
  rw [this]; simp
def MoveL (l : List α) (k i : Nat) (l2 : List α) : Prop := ∀ P X x S, l = P ++ (X ++ x :: S) → P.length = i → i + X.length = k → l2 = P ++ x :: (X ++ S)
theorem MoveL.zero {l : List α} {k i : Nat} (h : k ≤ i) : MoveL l k i l := by
  intro P X x S el hp hx
  obtain rfl : X = [] := List.length_eq_zero_iff.1 (by omega)
  simpa using el
theorem MoveL.step {l l2 : List α} {k i : Nat} (hk : i < k) (h : MoveL (sw l k (k - 1)) (k - 1) i l2) : MoveL l k i l2 := by
  intro P X x S el hp hx
  obtain ⟨y, X', hX, hx2⟩ := ne_snoc (l := X) rfl (by omega)
  have e2 : sw l k (k - 1) = P ++ (X' ++ x :: y :: S) := by
    rw [sw_symm, el, hX, show k - 1 = (P ++ X').length by rw [List.length_append]; omega, show k = (P ++ X').length + 1 by rw [List.length_append]; omega]
    have := sw_adj (P ++ X') S y x
    simpa using this
  have := h P X' x (y :: S) e2 hp (by omega)
  rw [this, hX]; simp
/-! Insertion. -/
def InsL (lt : α → α → Bool) (l : List α) (a j : Nat) (l2 : List α) : Prop := ∀ P X x S, l = P ++ (X ++ x :: S) → P.length = a → a + X.length = j → Srt lt X → l2 = P ++ (mg lt X [x] ++ S)
theorem InsL.zero {l : List α} {a j : Nat} (h : j ≤ a) : InsL lt l a j l := by
  intro P X x S el hp hx _
  obtain rfl : X = [] := List.length_eq_zero_iff.1 (by omega)
  rw [mg_nil]; simpa using el
theorem InsL.stop (w : Weak lt) {l : List α} {a j : Nat} (hj : a < j) (hl : j < l.length) (hn : lt l[j] (l[j - 1]'(by omega)) = false) : InsL lt l a j l := by
  intro P X x S el hp hx hs
  obtain ⟨y, X', rfl, hx2⟩ := ne_snoc (l := X) rfl (by omega)
  simp only [List.length_append, List.length_cons, List.length_nil] at hx
  subst el
  have e1 : (P ++ (X' ++ [y] ++ x :: S))[j]? = some x := by
    rw [List.getElem?_append_right (by omega), List.getElem?_append_right (by simp; omega)]
    simp; rw [show j - P.length - (X'.length + 1) = 0 by omega]; rfl
  have e2 : (P ++ (X' ++ [y] ++ x :: S))[j - 1]? = some y := by
    rw [List.getElem?_append_right (by omega), List.append_assoc, List.getElem?_append_right (by omega)]
    rw [show j - 1 - P.length - X'.length = 0 by omega]; rfl
  rw [List.getElem?_eq_getElem (by omega)] at e1 e2
  injection e1 with e1; injection e2 with e2
  rw [e1, e2] at hn
  have hm : mg lt (X' ++ [y]) [x] = X' ++ [y] ++ [x] := by
    have := mg_split (lt := lt) _ (X' ++ [y]) [] [] [x] (Nat.le_refl _) (fun z hz q hq => by
      simp at hq; subst hq
      rcases List.mem_append.1 hz with hz | hz
      · have := (List.pairwise_append.1 hs).2.2 z hz y (by simp)
        exact w.ntr _ _ _ hn this
      · simp at hz; subst hz; exact hn) (fun q hq => by cases hq)
    simpa [mg_nil, mg_nil'] using this
  rw [hm]; simp
theorem InsL.step {l l2 : List α} {a j : Nat} (hj : a < j) (hl : j < l.length) (hn : lt l[j] (l[j - 1]'(by omega)) = true) (h : InsL lt (sw l j (j - 1)) a (j - 1) l2) : InsL lt l a j l2 := by
  intro P X x S el hp hx hs
  obtain ⟨y, X', hX, hx2⟩ := ne_snoc (l := X) rfl (by omega)
  have e1 : l[j]? = some x := by
    rw [el, List.getElem?_append_right (by omega), List.getElem?_append_right (by omega)]
    rw [show j - P.length - X.length = 0 by omega]; rfl
  have e2 : l[j - 1]? = some y := by
    rw [el, hX, List.getElem?_append_right (by omega), List.append_assoc, List.getElem?_append_right (by omega)]
    rw [show j - 1 - P.length - X'.length = 0 by omega]; rfl
  rw [List.getElem?_eq_getElem (by omega)] at e1 e2
  injection e1 with e1; injection e2 with e2
  rw [e1, e2] at hn
  have e3 : sw l j (j - 1) = P ++ (X' ++ x :: (y :: S)) := by
    rw [sw_symm, el, hX, show j - 1 = (P ++ X').length by rw [List.length_append]; omega, show j = (P ++ X').length + 1 by rw [List.length_append]; omega]
    have := sw_adj (P ++ X') S y x
    simpa using this
  rw [hX] at hs
  have := h P X' x (y :: S) e3 hp (by omega) (List.pairwise_append.1 hs).1
  rw [this]
  have hm : mg lt (X' ++ [y]) [x] = mg lt X' [x] ++ [y] := by
    have := mg_split (lt := lt) _ X' [x] [y] [] (Nat.le_refl _) (fun z hz q hq => by cases hq) (fun q hq z hz => by simp at hq hz; subst hq; subst hz; exact hn)
    simpa [mg_nil'] using this
  rw [hX, hm]; simp
def InsO (lt : α → α → Bool) (l : List α) (a i b : Nat) (l2 : List α) : Prop := ∀ P X Y S, l = P ++ (X ++ (Y ++ S)) → P.length = a → a + X.length = i → i + Y.length = b → Srt lt X → l2 = P ++ (Y.foldl (fun acc x => mg lt acc [x]) X ++ S)
theorem InsO.zero {l : List α} {a i b : Nat} (h : b ≤ i) : InsO lt l a i b l := by
  intro P X Y S el hp hx hy _
  obtain rfl : Y = [] := List.length_eq_zero_iff.1 (by omega)
  simpa using el
theorem InsO.step (w : Weak lt) {l l' l2 : List α} {a i b : Nat} (hi : i < b) (h : InsL lt l a i l') (h2 : InsO lt l' a (i + 1) b l2) : InsO lt l a i b l2 := by
  intro P X Y S el hp hx hy hs
  obtain ⟨y, Y, rfl, hy2⟩ := ne_cons (l := Y) rfl (by omega)
  have e1 := h P X y (Y ++ S) (by rw [el]; simp) hp hx hs
  have hs2 : Srt lt (mg lt X [y]) := mg_srt w _ _ _ (Nat.le_refl _) hs (List.pairwise_singleton _ _)
  simp only [List.length_cons] at hy hy2
  exact h2 P (mg lt X [y]) Y S e1 hp (by rw [mg_len]; simp; omega) (by omega) hs2
/-- A part that is sorted. -/
def SortR (lt : α → α → Bool) (l : List α) (a b : Nat) (l2 : List α) : Prop := ∀ P X S, l = P ++ (X ++ S) → P.length = a → a + X.length = b → l2 = P ++ (sort lt X ++ S)
theorem SortR.ofO {l l2 : List α} {a b : Nat} (hab : a < b) (h : InsO lt l a (a + 1) b l2) : SortR lt l a b l2 := by
  intro P X S el hp hx
  obtain ⟨x, X, rfl, hx2⟩ := ne_cons (l := X) rfl (by omega)
  simp only [List.length_cons] at hx hx2
  have := h P [x] X S (by rw [el]; simp) hp (by simp) (by omega) (List.pairwise_singleton _ _)
  rw [this, sort, List.foldl_cons, mg_nil]
theorem SortR.triv {l : List α} {a b : Nat} (hab : b ≤ a + 1) : SortR lt l a b l := by
  intro P X S el hp hx
  rw [el]
  cases X with
  | nil => rfl
  | cons x X =>
    obtain rfl : X = [] := List.length_eq_zero_iff.1 (by simp at hx; omega)
    rw [sort, List.foldl_cons, mg_nil]; rfl
/-! A search by halves. -/
def BS (p : Nat → Bool) (i j r : Nat) : Prop := i ≤ r ∧ r ≤ j ∧ (r = i ∨ p (r - 1) = true) ∧ (r = j ∨ p r = false)
theorem BS.done (p : Nat → Bool) (i : Nat) : BS p i i i := ⟨Nat.le_refl _, Nat.le_refl _, .inl rfl, .inl rfl⟩
theorem BS.up {p : Nat → Bool} {i j h r : Nat} (hi : i ≤ h) (hp : p h = true) (b : BS p (h + 1) j r) : BS p i j r := by
  obtain ⟨h1, h2, h3, h4⟩ := b
  refine ⟨by omega, h2, ?_, h4⟩
  rcases h3 with h3 | h3
  · exact .inr (by rw [h3]; exact hp)
  · exact .inr h3
theorem BS.down {p : Nat → Bool} {i j h r : Nat} (hj : h ≤ j) (hp : p h = false) (b : BS p i h r) : BS p i j r := by
  obtain ⟨h1, h2, h3, h4⟩ := b
  refine ⟨h1, by omega, h3, ?_⟩
  rcases h4 with h4 | h4
  · exact .inr (by rw [h4]; exact hp)
  · exact .inr h4
/-! Merging in place. -/
def at_ (lt : α → α → Bool) (l : List α) (i j : Nat) : Bool := match l[i]?, l[j]? with | some x, some y => lt x y | _, _ => false
theorem at_eq {l : List α} {i j : Nat} (hi : i < l.length) (hj : j < l.length) : at_ lt l i j = lt l[i] l[j] := by simp [at_, hi, hj]
def SymR (lt : α → α → Bool) (l : List α) (a m b : Nat) (l2 : List α) : Prop := ∀ P X Y S, l = P ++ (X ++ (Y ++ S)) → P.length = a → a + X.length = m → m + Y.length = b → Srt lt X → Srt lt Y → l2 = P ++ (mg lt X Y ++ S)
theorem le_ext (w : Weak lt) {A B : List α} {x y : α} (hA : Srt lt (A ++ [x])) (hB : Srt lt (y :: B)) (h : lt y x = false) : ∀ u ∈ A ++ [x], ∀ v ∈ y :: B, lt v u = false := by
  intro u hu v hv
  have h1 : lt x u = false := by
    rcases List.mem_append.1 hu with hu | hu
    · exact (List.pairwise_append.1 hA).2.2 u hu x (by simp)
    · simp at hu; subst hu; exact w.irr _
  have h2 : lt v y = false := by
    rcases List.mem_cons.1 hv with rfl | hv
    · exact w.irr _
    · exact (List.pairwise_cons.1 hB).1 v hv
  exact w.ntr _ _ _ (w.ntr _ _ _ h2 h) h1
theorem lt_ext (w : Weak lt) {A B : List α} {x y : α} (hA : Srt lt (A ++ [y])) (hB : Srt lt (x :: B)) (h : lt y x = true) : ∀ v ∈ A ++ [y], ∀ u ∈ x :: B, lt v u = true := by
  intro v hv u hu
  have h1 : lt y v = false := by
    rcases List.mem_append.1 hv with hv | hv
    · exact (List.pairwise_append.1 hA).2.2 v hv y (by simp)
    · simp at hv; subst hv; exact w.irr _
  have h2 : lt u x = false := by
    rcases List.mem_cons.1 hu with rfl | hu
    · exact w.irr _
    · exact (List.pairwise_cons.1 hB).1 u hu
  cases c : lt v u with
  | true => rfl
  | false => rw [w.ntr _ _ _ (w.ntr _ _ _ h1 c) h2] at h; cases h
theorem get_cut {P Q : List α} {x : α} {i : Nat} (h : P.length = i) : (P ++ x :: Q)[i]? = some x := by subst h; simp
theorem Srt.left {A B : List α} (h : Srt lt (A ++ B)) : Srt lt A := (List.pairwise_append.1 h).1
theorem Srt.right {A B : List α} (h : Srt lt (A ++ B)) : Srt lt B := (List.pairwise_append.1 h).2.1
/-- Two places of a list, told by what stands there. -/
theorem at_of {l : List α} {i j : Nat} {x y : α} (h1 : l[i]? = some x) (h2 : l[j]? = some y) : at_ lt l i j = lt x y := by simp [at_, h1, h2]
theorem SymR.one (w : Weak lt) {l l2 : List α} {a b r : Nat} (hb : BS (fun h => at_ lt l h a) (a + 1) b r) (h2 : MoveR l a (r - 1) l2) : SymR lt l a (a + 1) b l2 := by
  intro P X Y S e hp hx hy hX hY
  obtain ⟨x, X, rfl, hx2⟩ := ne_cons (l := X) rfl (by omega)
  obtain rfl : X = [] := List.length_eq_zero_iff.1 (by simp only [List.length_cons] at hx; omega)
  obtain ⟨g1, g2, g3, g4⟩ := hb
  change r = a + 1 ∨ at_ lt l (r - 1) a = true at g3
  change r = b ∨ at_ lt l r a = false at g4
  obtain ⟨Y1, Y2, rfl, hy1⟩ := cut (l := Y) (a := r - (a + 1)) (by omega)
  rw [List.length_append] at hy
  have ea : l[a]? = some x := by rw [e]; exact get_cut hp
  have c1 : ∀ y ∈ Y1, lt y x = true := by
    rcases g3 with g3 | g3
    · obtain rfl : Y1 = [] := List.length_eq_zero_iff.1 (by omega)
      intro y hy; cases hy
    · by_cases h0 : Y1.length = 0
      · obtain rfl : Y1 = [] := List.length_eq_zero_iff.1 h0
        intro y hy; cases hy
      · obtain ⟨y, Y1', rfl, hy3⟩ := ne_snoc (l := Y1) rfl (by omega)
        simp only [List.length_append, List.length_cons, List.length_nil] at hy1 hy
        have er : l[r - 1]? = some y := by
          rw [e, show P ++ ([x] ++ (Y1' ++ [y] ++ Y2 ++ S)) = (P ++ (x :: Y1')) ++ y :: (Y2 ++ S) by simp]
          exact get_cut (by simp; omega)
        have : lt y x = true := by rw [at_of er ea] at g3; exact g3
        have hall := lt_ext w hY.left (List.pairwise_singleton _ x) this
        exact fun v hv => hall v hv x (by simp)
  have c2 : ∀ y ∈ Y2, lt y x = false := by
    rcases g4 with g4 | g4
    · obtain rfl : Y2 = [] := List.length_eq_zero_iff.1 (by omega)
      intro y hy; cases hy
    · by_cases h0 : Y2.length = 0
      · obtain rfl : Y2 = [] := List.length_eq_zero_iff.1 h0
        intro y hy; cases hy
      · obtain ⟨y, Y2', rfl, hy3⟩ := ne_cons (l := Y2) rfl (by omega)
        have er : l[r]? = some y := by
          rw [e, show P ++ ([x] ++ (Y1 ++ y :: Y2' ++ S)) = (P ++ (x :: Y1)) ++ y :: (Y2' ++ S) by simp]
          exact get_cut (by simp; omega)
        have : lt y x = false := by rw [at_of er ea] at g4; exact g4
        have hall := le_ext w (A := []) (List.pairwise_singleton _ x) hY.right this
        exact fun v hv => hall x (by simp) v hv
  have hm : mg lt [x] (Y1 ++ Y2) = Y1 ++ x :: Y2 := by
    have := mg_split (lt := lt) _ [] Y1 [x] Y2 (Nat.le_refl _) (fun z hz => by cases hz) (fun y hy z hz => by simp at hz; subst hz; exact c1 y hy)
    rw [List.nil_append, mg_nil, mg_one c2] at this
    exact this
  rw [hm, h2 P x Y1 (Y2 ++ S) (by rw [e]; simp) hp (by omega)]
  simp
theorem SymR.last (w : Weak lt) {l l2 : List α} {a m r : Nat} (hb : BS (fun h => !at_ lt l m h) a m r) (h2 : MoveL l m r l2) : SymR lt l a m (m + 1) l2 := by
  intro P X Y S e hp hx hy hX hY
  obtain ⟨y, Y, rfl, hy2⟩ := ne_cons (l := Y) rfl (by omega)
  obtain rfl : Y = [] := List.length_eq_zero_iff.1 (by simp only [List.length_cons] at hy; omega)
  obtain ⟨g1, g2, g3, g4⟩ := hb
  change r = a ∨ (!at_ lt l m (r - 1)) = true at g3
  change r = m ∨ (!at_ lt l m r) = false at g4
  obtain ⟨X1, X2, rfl, hx1⟩ := cut (l := X) (a := r - a) (by omega)
  rw [List.length_append] at hx
  have em : l[m]? = some y := by
    rw [e, show P ++ (X1 ++ X2 ++ ([y] ++ S)) = (P ++ (X1 ++ X2)) ++ y :: S by simp]
    exact get_cut (by simp; omega)
  have c1 : ∀ x ∈ X1, lt y x = false := by
    rcases g3 with g3 | g3
    · obtain rfl : X1 = [] := List.length_eq_zero_iff.1 (by omega)
      intro y hy; cases hy
    · by_cases h0 : X1.length = 0
      · obtain rfl : X1 = [] := List.length_eq_zero_iff.1 h0
        intro y hy; cases hy
      · obtain ⟨x, X1', rfl, hy3⟩ := ne_snoc (l := X1) rfl (by omega)
        simp only [List.length_append, List.length_cons, List.length_nil] at hx1 hx
        have er : l[r - 1]? = some x := by
          rw [e, show P ++ (X1' ++ [x] ++ X2 ++ ([y] ++ S)) = (P ++ X1') ++ x :: (X2 ++ y :: S) by simp]
          exact get_cut (by simp; omega)
        have : lt y x = false := by rw [at_of em er] at g3; simpa using g3
        have hall := le_ext w hX.left (B := []) (List.pairwise_singleton _ y) this
        exact fun u hu => hall u hu y (by simp)
  have c2 : ∀ x ∈ X2, lt y x = true := by
    rcases g4 with g4 | g4
    · obtain rfl : X2 = [] := List.length_eq_zero_iff.1 (by omega)
      intro y hy; cases hy
    · by_cases h0 : X2.length = 0
      · obtain rfl : X2 = [] := List.length_eq_zero_iff.1 h0
        intro y hy; cases hy
      · obtain ⟨x, X2', rfl, hy3⟩ := ne_cons (l := X2) rfl (by omega)
        have er : l[r]? = some x := by
          rw [e, show P ++ (X1 ++ x :: X2' ++ ([y] ++ S)) = (P ++ X1) ++ x :: (X2' ++ y :: S) by simp]
          exact get_cut (by simp; omega)
        have : lt y x = true := by rw [at_of em er] at g4; simpa using g4
        have hall := lt_ext w (A := []) (List.pairwise_singleton _ y) hX.right this
        exact fun u hu => hall y (by simp) u hu
  have hm : mg lt (X1 ++ X2) [y] = X1 ++ y :: X2 := by
    have := mg_split (lt := lt) _ X1 [] X2 [y] (Nat.le_refl _) (fun x hx z hz => by simp at hz; subst hz; exact c1 x hx) (fun z hz => by cases hz)
    rw [List.nil_append, mg_nil', mg_one' c2] at this
    exact this
  rw [hm, h2 (P ++ X1) X2 y S (by rw [e]; simp) (by simp; omega) (by omega)]
  simp
/-- By halves: where it is cut, what is turned, both parts. -/
theorem SymR.halves (w : Weak lt) {l l1 l2 l3 : List α} {a m b mid lo hi s : Nat} (ham : a < m) (hmb : m < b) (hmid : mid = (a + b) / 2)
    (hlo : (mid < m ∧ lo = mid + m - b ∧ hi = mid) ∨ (m ≤ mid ∧ lo = a ∧ hi = m))
    (hb : BS (fun c => !at_ lt l (mid + m - 1 - c) c) lo hi s)
    (h1 : (s < m ∧ m < mid + m - s ∧ RotR l s m (mid + m - s) l1) ∨ (¬ (s < m ∧ m < mid + m - s) ∧ l1 = l))
    (h2 : (a < s ∧ s < mid ∧ SymR lt l1 a s mid l2) ∨ (¬ (a < s ∧ s < mid) ∧ l2 = l1))
    (h3 : (mid < mid + m - s ∧ mid + m - s < b ∧ SymR lt l2 mid (mid + m - s) b l3) ∨ (¬ (mid < mid + m - s ∧ mid + m - s < b) ∧ l3 = l2)) : SymR lt l a m b l3 := by
  intro P X Y S e hp hx hy hX hY
  obtain ⟨g1, g2, g3, g4⟩ := hb
  change s = lo ∨ (!at_ lt l (mid + m - 1 - (s - 1)) (s - 1)) = true at g3
  change s = hi ∨ (!at_ lt l (mid + m - 1 - s) s) = false at g4
  have hsm : a ≤ s ∧ s ≤ m ∧ s ≤ mid ∧ mid + m - s ≤ b := by omega
  obtain ⟨s1, s2, s3, s4⟩ := hsm
  obtain ⟨X1, X2, rfl, hx1⟩ := cut (l := X) (a := s - a) (by omega)
  obtain ⟨Y1, Y2, rfl, hy1⟩ := cut (l := Y) (a := mid - s) (by omega)
  rw [List.length_append] at hx hy
  have e1 : l1 = P ++ (X1 ++ (Y1 ++ (X2 ++ (Y2 ++ S)))) := by
    rcases h1 with ⟨q1, q2, h1⟩ | ⟨q, h1⟩
    · have := h1 (P ++ X1) X2 Y1 (Y2 ++ S) (by rw [e]; simp) (by simp; omega) (by omega) (by omega)
      rw [this]; simp
    · rw [h1, e]
      by_cases c : X2.length = 0
      · obtain rfl := List.length_eq_zero_iff.1 c; simp
      · obtain rfl : Y1 = [] := List.length_eq_zero_iff.1 (by omega)
        simp
  have e2 : l2 = P ++ (mg lt X1 Y1 ++ (X2 ++ (Y2 ++ S))) := by
    rcases h2 with ⟨q1, q2, h2⟩ | ⟨q, h2⟩
    · exact h2 P X1 Y1 (X2 ++ (Y2 ++ S)) e1 hp (by omega) (by omega) hX.left hY.left
    · rw [h2, e1]
      by_cases c : X1.length = 0
      · obtain rfl := List.length_eq_zero_iff.1 c; rw [mg_nil]; simp
      · obtain rfl : Y1 = [] := List.length_eq_zero_iff.1 (by omega)
        rw [mg_nil']; simp
  have hmgl := mg_len (lt := lt) X1 Y1
  have e3 : l3 = P ++ (mg lt X1 Y1 ++ (mg lt X2 Y2 ++ S)) := by
    rcases h3 with ⟨q1, q2, h3⟩ | ⟨q, h3⟩
    · have := h3 (P ++ mg lt X1 Y1) X2 Y2 S (by rw [e2]; simp) (by rw [List.length_append, hmgl]; omega) (by omega) (by omega) hX.right hY.right
      rw [this]; simp
    · rw [h3, e2]
      by_cases c : X2.length = 0
      · obtain rfl := List.length_eq_zero_iff.1 c; rw [mg_nil]; simp
      · obtain rfl : Y2 = [] := List.length_eq_zero_iff.1 (by omega)
        rw [mg_nil']; simp
  have k1 : ∀ x ∈ X1, ∀ y ∈ Y2, lt y x = false := by
    by_cases cx : X1.length = 0
    · obtain rfl := List.length_eq_zero_iff.1 cx
      intro x hx; cases hx
    by_cases cy : Y2.length = 0
    · obtain rfl := List.length_eq_zero_iff.1 cy
      intro x hx y hy; cases hy
    obtain ⟨x, X1', rfl, _⟩ := ne_snoc (l := X1) rfl (by omega)
    obtain ⟨y, Y2', rfl, _⟩ := ne_cons (l := Y2) rfl (by omega)
    simp only [List.length_append, List.length_cons, List.length_nil] at hx hy hx1
    have gs : at_ lt l (mid + m - 1 - (s - 1)) (s - 1) = false := by
      rcases g3 with g3 | g3
      · omega
      · simpa using g3
    have ex : l[s - 1]? = some x := by
      rw [e, show P ++ (X1' ++ [x] ++ X2 ++ (Y1 ++ y :: Y2' ++ S)) = (P ++ X1') ++ x :: (X2 ++ (Y1 ++ y :: Y2' ++ S)) by simp]
      exact get_cut (by simp; omega)
    have ey : l[mid + m - 1 - (s - 1)]? = some y := by
      rw [e, show P ++ (X1' ++ [x] ++ X2 ++ (Y1 ++ y :: Y2' ++ S)) = (P ++ (X1' ++ [x] ++ X2 ++ Y1)) ++ y :: (Y2' ++ S) by simp]
      exact get_cut (by simp; omega)
    rw [at_of ey ex] at gs
    exact le_ext w hX.left hY.right gs
  have k2 : ∀ y ∈ Y1, ∀ x ∈ X2, lt y x = true := by
    by_cases cy : Y1.length = 0
    · obtain rfl := List.length_eq_zero_iff.1 cy
      intro y hy; cases hy
    by_cases cx : X2.length = 0
    · obtain rfl := List.length_eq_zero_iff.1 cx
      intro y hy x hx; cases hx
    obtain ⟨y, Y1', rfl, _⟩ := ne_snoc (l := Y1) rfl (by omega)
    obtain ⟨x, X2', rfl, _⟩ := ne_cons (l := X2) rfl (by omega)
    simp only [List.length_append, List.length_cons, List.length_nil] at hx hy hy1
    have gs : at_ lt l (mid + m - 1 - s) s = true := by
      rcases g4 with g4 | g4
      · omega
      · simpa using g4
    have ex : l[s]? = some x := by
      rw [e, show P ++ (X1 ++ x :: X2' ++ (Y1' ++ [y] ++ Y2 ++ S)) = (P ++ X1) ++ x :: (X2' ++ (Y1' ++ [y] ++ Y2 ++ S)) by simp]
      exact get_cut (by simp; omega)
    have ey : l[mid + m - 1 - s]? = some y := by
      rw [e, show P ++ (X1 ++ x :: X2' ++ (Y1' ++ [y] ++ Y2 ++ S)) = (P ++ (X1 ++ x :: X2' ++ Y1')) ++ y :: (Y2 ++ S) by simp]
      exact get_cut (by simp; omega)
    rw [at_of ey ex] at gs
    exact lt_ext w hY.left hX.right gs
  rw [e3, mg_split _ X1 Y1 X2 Y2 (Nat.le_refl _) k1 k2]
  simp
/-! Blocks. -/
inductive Blk (lt : α → α → Bool) (w : Nat) : List α → List α → Prop where
  | last {l : List α} : l.length ≤ w → Blk lt w l (sort lt l)
  | cons {A B B' : List α} : A.length = w → Blk lt w B B' → Blk lt w (A ++ B) (sort lt A ++ B')
theorem Blk.len {w : Nat} {l l' : List α} (h : Blk lt w l l') : l'.length = l.length := by
  induction h with
  | last _ => exact sort_len _
  | cons h1 _ ih => rw [List.length_append, List.length_append, sort_len, ih]
theorem Blk.short {w : Nat} {l l' : List α} (h : Blk lt w l l') (hl : l.length ≤ w) : l' = sort lt l := by
  induction h with
  | last _ => rfl
  | cons h1 h2 ih =>
    rename_i A B B'
    rw [List.length_append] at hl
    obtain rfl : B = [] := List.length_eq_zero_iff.1 (by omega)
    have := h2.len
    obtain rfl : B' = [] := List.length_eq_zero_iff.1 (by simpa using this)
    simp
theorem Blk.split {w : Nat} {l l' : List α} (h : Blk lt w l l') (hl : w ≤ l'.length) : ∃ A B B', l = A ++ B ∧ A.length = w ∧ l' = sort lt A ++ B' ∧ Blk lt w B B' := by
  cases h with
  | last h1 => rw [sort_len] at hl; exact ⟨l, [], [], by simp, by omega, by simp, .last (Nat.zero_le _)⟩
  | cons h1 h2 => exact ⟨_, _, _, rfl, h1, rfl, h2⟩
def StR1 (lt : α → α → Bool) (w : Nat) (l : List α) (a : Nat) (l2 : List α) : Prop := ∀ P R, l = P ++ R → P.length = a → ∃ R', l2 = P ++ R' ∧ Blk lt w R R'
theorem StR1.step {w : Nat} {l l' l2 : List α} {a : Nat} (hb : a + w ≤ l.length) (h : SortR lt l a (a + w) l') (h2 : StR1 lt w l' (a + w) l2) : StR1 lt w l a l2 := by
  intro P R e hp
  have hl := congrArg List.length e
  rw [List.length_append] at hl
  obtain ⟨A, B, rfl, hA⟩ := cut (l := R) (a := w) (by omega)
  have e1 := h P A B e hp (by omega)
  obtain ⟨B', e2, hB⟩ := h2 (P ++ sort lt A) B (by rw [e1]; simp) (by rw [List.length_append, sort_len]; omega)
  exact ⟨sort lt A ++ B', by rw [e2]; simp, .cons hA hB⟩
theorem StR1.done {w : Nat} {l l2 : List α} {a : Nat} (hb : l.length < a + w) (h : SortR lt l a l.length l2) : StR1 lt w l a l2 := by
  intro P R e hp
  have hl := congrArg List.length e
  rw [List.length_append] at hl
  have e1 := h P R [] (by simpa using e) hp (by omega)
  exact ⟨sort lt R, by rw [e1]; simp, .last (by omega)⟩
def PassR (lt : α → α → Bool) (w : Nat) (l : List α) (a : Nat) (l2 : List α) : Prop := ∀ P R R0, l = P ++ R → P.length = a → Blk lt w R0 R → ∃ R', l2 = P ++ R' ∧ Blk lt (2 * w) R0 R'
theorem PassR.step (wk : Weak lt) {w : Nat} {l l' l2 : List α} {a : Nat} (hb : a + 2 * w ≤ l.length) (h : SymR lt l a (a + w) (a + 2 * w) l') (h2 : PassR lt w l' (a + 2 * w) l2) : PassR lt w l a l2 := by
  intro P R R0 e hp hB
  have hl := congrArg List.length e
  rw [List.length_append] at hl
  obtain ⟨A, B0, B, rfl, hA, rfl, hB1⟩ := hB.split (by omega)
  rw [List.length_append, sort_len] at hl
  obtain ⟨A2, B2, B', rfl, hA2, rfl, hB2⟩ := hB1.split (by omega)
  have e1 := h P (sort lt A) (sort lt A2) B' (by rw [e]) hp (by rw [sort_len]; omega) (by rw [sort_len]; omega) (sort_srt wk _) (sort_srt wk _)
  rw [sort_app wk] at e1
  obtain ⟨R', e2, hR⟩ := h2 (P ++ sort lt (A ++ A2)) B' B2 (by rw [e1]; simp) (by rw [List.length_append, sort_len, List.length_append]; omega) hB2
  refine ⟨sort lt (A ++ A2) ++ R', by rw [e2]; simp, ?_⟩
  rw [← List.append_assoc]
  exact .cons (by rw [List.length_append]; omega) hR
theorem PassR.part (wk : Weak lt) {w : Nat} {l l2 : List α} {a : Nat} (hb : l.length < a + 2 * w) (hm : a + w < l.length) (h : SymR lt l a (a + w) l.length l2) : PassR lt w l a l2 := by
  intro P R R0 e hp hB
  have hl := congrArg List.length e
  rw [List.length_append] at hl
  obtain ⟨A, B0, B, rfl, hA, rfl, hB1⟩ := hB.split (by omega)
  rw [List.length_append, sort_len] at hl
  have hs := hB1.short (by rw [← hB1.len]; omega)
  subst hs
  have hBl := hB1.len
  have e1 := h P (sort lt A) (sort lt B0) [] (by rw [e]; simp) hp (by rw [sort_len]; omega) (by omega) (sort_srt wk _) (sort_srt wk _)
  rw [sort_app wk] at e1
  exact ⟨sort lt (A ++ B0), by rw [e1]; simp, .last (by rw [List.length_append]; omega)⟩
theorem PassR.none (wk : Weak lt) {w : Nat} {l : List α} {a : Nat} (hm : l.length ≤ a + w) : PassR lt w l a l := by
  intro P R R0 e hp hB
  have hl := congrArg List.length e
  rw [List.length_append] at hl
  have hs := hB.short (by rw [← hB.len]; omega)
  have := hB.len
  exact ⟨R, e, by rw [hs]; exact .last (by omega)⟩
def StR2 (lt : α → α → Bool) (w : Nat) (l l2 : List α) : Prop := ∀ l0, Blk lt w l0 l → l2 = sort lt l0
theorem StR2.done {w : Nat} {l : List α} (h : l.length ≤ w) : StR2 lt w l l := fun l0 hB => hB.short (by rw [← hB.len]; exact h)
theorem StR2.step {w : Nat} {l l' l2 : List α} (h : PassR lt w l 0 l') (h2 : StR2 lt (2 * w) l' l2) : StR2 lt w l l2 := fun l0 hB => by
  obtain ⟨R', e, hR⟩ := h [] l l0 rfl rfl hB
  rw [List.nil_append] at e
  subst e
  exact h2 l0 hR
end Go.Det.Stab
