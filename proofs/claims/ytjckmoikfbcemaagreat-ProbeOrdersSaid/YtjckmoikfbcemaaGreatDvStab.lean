/- Stable sorting: merging, and what a merge by rotation comes to. Plain Lean. -/
import Derived.Test.YtjckmoikfbcemaaGreatDvUse
set_option linter.unusedVariables false
set_option linter.unusedSimpArgs false
namespace Go.Det.Stab
variable {α : Type}

/-- A comparison by which one may sort. -/
structure Weak (lt : α → α → Bool) : Prop where
  irr : ∀ a, lt a a = false
  tr : ∀ a b c, lt a b = true → lt b c = true → lt a c = true
  ntr : ∀ a b c, lt a b = false → lt b c = false → lt a c = false
theorem Weak.asym {lt : α → α → Bool} (w : Weak lt) {a b : α} (h : lt a b = true) : lt b a = false := by
  cases c : lt b a with
  | false => rfl
  | true => have := w.tr _ _ _ h c; rw [w.irr] at this; cases this
/-- Merged; of equal ones those of the first list come first. -/
def mg (lt : α → α → Bool) : List α → List α → List α
  | [], ys => ys
  | x :: xs, [] => x :: xs
  | x :: xs, y :: ys => if lt y x = true then y :: mg lt (x :: xs) ys else x :: mg lt xs (y :: ys)
termination_by a b => a.length + b.length
variable {lt : α → α → Bool}
theorem mg_nil (ys : List α) : mg lt [] ys = ys := by rw [mg]
theorem mg_nil' (xs : List α) : mg lt xs [] = xs := by cases xs <;> rw [mg]
theorem mg_cons (x y : α) (xs ys : List α) : mg lt (x :: xs) (y :: ys) = if lt y x = true then y :: mg lt (x :: xs) ys else x :: mg lt xs (y :: ys) := by rw [mg]
theorem mg_perm : ∀ (n : Nat) (a b : List α), a.length + b.length ≤ n → (mg lt a b).Perm (a ++ b)
  | n, [], b, _ => by rw [mg_nil]; exact List.Perm.refl _
  | n, x :: xs, [], _ => by rw [mg_nil', List.append_nil]
  | 0, x :: xs, y :: ys, h => by simp at h
  | n + 1, x :: xs, y :: ys, h => by
    rw [mg_cons]
    split
    · refine (List.Perm.cons y (mg_perm n (x :: xs) ys (by simp at h ⊢; omega))).trans ?_
      exact (List.perm_middle (l₁ := x :: xs) (l₂ := ys) (a := y)).symm
    · exact List.Perm.cons x (mg_perm n xs (y :: ys) (by simp at h ⊢; omega))
theorem mg_len (a b : List α) : (mg lt a b).length = a.length + b.length := by
  rw [(mg_perm _ a b (Nat.le_refl _)).length_eq, List.length_append]
def Srt (lt : α → α → Bool) (l : List α) : Prop := l.Pairwise fun a b => lt b a = false
theorem mg_srt (w : Weak lt) : ∀ (n : Nat) (a b : List α), a.length + b.length ≤ n → Srt lt a → Srt lt b → Srt lt (mg lt a b)
  | n, [], b, _, _, hb => by rw [mg_nil]; exact hb
  | n, x :: xs, [], _, ha, _ => by rw [mg_nil']; exact ha
  | 0, x :: xs, y :: ys, h, _, _ => by simp at h
  | n + 1, x :: xs, y :: ys, h, ha, hb => by
    rw [mg_cons]
    have ha' := List.pairwise_cons.1 ha
    have hb' := List.pairwise_cons.1 hb
    split
    · rename_i c
      refine List.pairwise_cons.2 ⟨fun z hz => ?_, mg_srt w n (x :: xs) ys (by simp at h ⊢; omega) ha hb'.2⟩
      rcases List.mem_append.1 ((mg_perm _ (x :: xs) ys (Nat.le_refl _)).mem_iff.1 hz) with hz | hz
      · rcases List.mem_cons.1 hz with rfl | hz
        · exact w.asym c
        · exact w.ntr _ _ _ (ha'.1 z hz) (w.asym c)
      · exact hb'.1 z hz
    · rename_i c
      have c' : lt y x = false := by simpa using c
      refine List.pairwise_cons.2 ⟨fun z hz => ?_, mg_srt w n xs (y :: ys) (by simp at h ⊢; omega) ha'.2 hb⟩
      rcases List.mem_append.1 ((mg_perm _ xs (y :: ys) (Nat.le_refl _)).mem_iff.1 hz) with hz | hz
      · exact ha'.1 z hz
      · rcases List.mem_cons.1 hz with rfl | hz
        · exact c'
        · exact w.ntr _ _ _ (hb'.1 z hz) c'
/-- What lies apart is merged apart. -/
theorem mg_split : ∀ (n : Nat) (a1 b1 a2 b2 : List α), a1.length + b1.length ≤ n → (∀ x ∈ a1, ∀ y ∈ b2, lt y x = false) → (∀ y ∈ b1, ∀ x ∈ a2, lt y x = true) → mg lt (a1 ++ a2) (b1 ++ b2) = mg lt a1 b1 ++ mg lt a2 b2
  | n, [], [], a2, b2, _, _, _ => by simp [mg_nil]
  | n, [], y :: b1, [], b2, _, _, _ => by simp [mg_nil]
  | 0, [], y :: b1, x :: a2, b2, h, _, _ => by simp at h
  | n + 1, [], y :: b1, x :: a2, b2, h, h1, h2 => by
    have := mg_split n [] b1 (x :: a2) b2 (by simp at h ⊢; omega) h1 (fun y hy => h2 y (by simp [hy]))
    simp only [List.nil_append, mg_nil] at this ⊢
    rw [List.cons_append, mg_cons, if_pos (h2 y (by simp) x (by simp)), this, List.cons_append]
  | 0, x :: a1, b1, a2, b2, h, _, _ => by simp at h
  | n + 1, x :: a1, [], a2, [], h, _, _ => by simp [mg_nil']
  | n + 1, x :: a1, [], a2, y :: b2, h, h1, h2 => by
    have := mg_split n a1 [] a2 (y :: b2) (by simp at h ⊢; omega) (fun x hx => h1 x (by simp [hx])) h2
    simp only [List.nil_append, mg_nil'] at this ⊢
    rw [List.cons_append, mg_cons, if_neg (by rw [h1 x (by simp) y (by simp)]; simp), this, List.cons_append]
  | n + 1, x :: a1, y :: b1, a2, b2, h, h1, h2 => by
    rw [List.cons_append, List.cons_append, mg_cons, mg_cons]
    split
    · have := mg_split n (x :: a1) b1 a2 b2 (by simp at h ⊢; omega) h1 (fun y hy => h2 y (by simp [hy]))
      rw [List.cons_append] at this
      rw [this, List.cons_append]
    · have := mg_split n a1 (y :: b1) a2 b2 (by simp at h ⊢; omega) (fun x hx => h1 x (by simp [hx])) h2
      rw [List.cons_append] at this
      rw [this, List.cons_append]
theorem mg_assoc (w : Weak lt) : ∀ (n : Nat) (a b c : List α), a.length + b.length + c.length ≤ n → mg lt (mg lt a b) c = mg lt a (mg lt b c)
  | n, [], b, c, _ => by rw [mg_nil, mg_nil]
  | n, x :: a, [], c, _ => by rw [mg_nil', mg_nil]
  | n, x :: a, y :: b, [], _ => by rw [mg_nil', mg_nil']
  | 0, x :: a, y :: b, z :: c, h => by simp at h
  | n + 1, x :: a, y :: b, z :: c, h => by
    simp only [List.length_cons] at h
    rw [mg_cons x y, mg_cons y z]
    by_cases h1 : lt y x = true
    · rw [if_pos h1]
      by_cases h2 : lt z y = true
      · have h3 := w.tr _ _ _ h2 h1
        rw [if_pos h2, mg_cons, if_pos h2, mg_cons, if_pos h3]
        have := mg_assoc w n (x :: a) (y :: b) c (by simp; omega)
        rw [mg_cons, if_pos h1] at this
        rw [this]
      · rw [if_neg h2, mg_cons, if_neg h2, mg_cons, if_pos h1]
        rw [mg_assoc w n (x :: a) b (z :: c) (by simp; omega)]
    · rw [if_neg h1]
      by_cases h2 : lt z y = true
      · rw [if_pos h2]
        by_cases h3 : lt z x = true
        · rw [mg_cons, if_pos h3, mg_cons, if_pos h3]
          have := mg_assoc w n (x :: a) (y :: b) c (by simp; omega)
          rw [mg_cons, if_neg h1] at this
          rw [this]
        · rw [mg_cons, if_neg h3, mg_cons, if_neg h3]
          have := mg_assoc w n a (y :: b) (z :: c) (by simp; omega)
          rw [mg_cons y z, if_pos h2] at this
          rw [this]
      · have h3 : ¬ lt z x = true := by
          have e1 : lt z y = false := by simpa using h2
          have e2 : lt y x = false := by simpa using h1
          rw [w.ntr _ _ _ e1 e2]; simp
        rw [if_neg h2, mg_cons, if_neg h3, mg_cons, if_neg h1]
        have := mg_assoc w n a (y :: b) (z :: c) (by simp; omega)
        rw [mg_cons y z, if_neg h2] at this
        rw [this]
theorem mg_one {x : α} : ∀ {b : List α}, (∀ y ∈ b, lt y x = false) → mg lt [x] b = x :: b
  | [], _ => by rw [mg_nil']
  | y :: b, h => by rw [mg_cons, if_neg (by rw [h y (by simp)]; simp), mg_nil]
theorem mg_one' {y : α} : ∀ {a : List α}, (∀ x ∈ a, lt y x = true) → mg lt a [y] = y :: a
  | [], _ => by rw [mg_nil]
  | x :: a, h => by rw [mg_cons, if_pos (h x (by simp)), mg_nil']

theorem snocRec {p : List α → Prop} (nil : p []) (snoc : ∀ (b : List α) (x : α), p b → p (b ++ [x])) (l : List α) : p l := by
  have : ∀ l : List α, p l.reverse := fun l => by
    induction l with
    | nil => exact nil
    | cons x l ih => rw [List.reverse_cons]; exact snoc _ _ ih
  have h := this l.reverse
  rwa [List.reverse_reverse] at h
/-- The stable sort: one after the other is put in, behind all that it is not less than. -/
def sort (lt : α → α → Bool) (l : List α) : List α := l.foldl (fun acc x => mg lt acc [x]) []
theorem sort_snoc (l : List α) (x : α) : sort lt (l ++ [x]) = mg lt (sort lt l) [x] := by
  rw [sort, List.foldl_append]; rfl
theorem sort_nil : sort lt ([] : List α) = [] := rfl
theorem sort_app (w : Weak lt) (a : List α) : ∀ b : List α, mg lt (sort lt a) (sort lt b) = sort lt (a ++ b) := by
  intro b
  induction b using snocRec with
  | nil => rw [sort_nil, mg_nil', List.append_nil]
  | snoc b x ih => rw [sort_snoc, ← List.append_assoc, sort_snoc, ← ih, mg_assoc w _ _ _ _ (Nat.le_refl _)]
theorem sort_perm (l : List α) : (sort lt l).Perm l := by
  induction l using snocRec with
  | nil => exact List.Perm.refl _
  | snoc b x ih => rw [sort_snoc]; exact (mg_perm _ _ _ (Nat.le_refl _)).trans (ih.append_right _)
theorem sort_srt (w : Weak lt) (l : List α) : Srt lt (sort lt l) := by
  induction l using snocRec with
  | nil => exact List.Pairwise.nil
  | snoc b x ih => rw [sort_snoc]; exact mg_srt w _ _ _ (Nat.le_refl _) ih (List.pairwise_singleton _ _)
theorem sort_len (l : List α) : (sort lt l).length = l.length := (sort_perm l).length_eq
/-- What is in order stays. -/
theorem sort_id : ∀ {l : List α}, Srt lt l → sort lt l = l := by
  intro l
  induction l using snocRec with
  | nil => intro _; rfl
  | snoc b x ih =>
    intro h
    have h' := List.pairwise_append.1 h
    rw [sort_snoc, ih h'.1]
    have := mg_split (lt := lt) _ b [] [] [x] (Nat.le_refl _) (fun y hy z hz => by simp at hz; subst hz; exact h'.2.2 y hy z (by simp)) (fun y hy => by cases hy)
    simpa [mg_nil, mg_nil'] using this
/-- The first ones of what is merged are merged of the first ones. -/
theorem mg_take : ∀ (k : Nat) (a b : List α) (i j : Nat), k ≤ i → k ≤ j → (mg lt (a.take i) (b.take j)).take k = (mg lt a b).take k
  | 0, a, b, i, j, _, _ => by simp
  | k + 1, [], b, i, j, _, hj => by simp only [List.take_nil, mg_nil, List.take_take]; congr 1; omega
  | k + 1, x :: a, [], i, j, hi, _ => by simp only [List.take_nil, mg_nil', List.take_take]; congr 1; omega
  | k + 1, x :: a, y :: b, i + 1, j + 1, hi, hj => by
    simp only [List.take_succ_cons, mg_cons]
    split
    · have := mg_take k (x :: a) b (i + 1) j (by omega) (by omega)
      simp only [List.take_succ_cons] at this ⊢
      rw [this]
    · have := mg_take k a (y :: b) i (j + 1) (by omega) (by omega)
      simp only [List.take_succ_cons] at this ⊢
      rw [this]
  | k + 1, x :: a, y :: b, 0, j, hi, _ => by omega
  | k + 1, x :: a, y :: b, i + 1, 0, _, hj => by omega
theorem Srt.get {l : List α} (w : Weak lt) (h : Srt lt l) {i j : Nat} (hi : i < l.length) (hj : j < l.length) (hij : i ≤ j) : lt l[j] l[i] = false := by
  rcases Nat.lt_or_ge i j with c | c
  · exact List.pairwise_iff_getElem.1 h i j hi hj c
  · obtain rfl : i = j := by omega
    exact w.irr _
end Go.Det.Stab
