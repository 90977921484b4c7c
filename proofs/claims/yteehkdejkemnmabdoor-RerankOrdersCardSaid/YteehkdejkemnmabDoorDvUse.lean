/- For proofs over printed forms: numbers, places in lists. -/
import Derived.Test.YteehkdejkemnmabDoorDvGen3
set_option linter.unusedVariables false
set_option linter.unusedSimpArgs false
namespace Go.Det

theorem natOf_nat (k : Nat) : natOf (k : Int) = k := rfl
theorem w64 {z : Int} (h1 : -9223372036854775808 ≤ z) (h2 : z < 9223372036854775808) : wrapF .i64 z = z := wr64 h1 h2
theorem w32 {z : Int} (h1 : -2147483648 ≤ z) (h2 : z < 2147483648) : wrapF .i32 z = z := by
  rw [wrapF_eq]
  show (if (true && decide (z % 4294967296 ≥ 2147483648)) = true then z % 4294967296 - 4294967296 else z % 4294967296) = z
  rw [Bool.true_and]
  by_cases h : z % 4294967296 ≥ 2147483648
  · rw [if_pos (decide_eq_true h)]; omega
  · rw [if_neg (by rw [decide_eq_false h]; simp)]; omega
theorem wu64 {z : Int} (h1 : 0 ≤ z) (h2 : z < 18446744073709551616) : wrapF .u64 z = z := by
  rw [wrapF_eq]
  show (if (false && decide (z % 18446744073709551616 ≥ 9223372036854775808)) = true then z % 18446744073709551616 - 18446744073709551616 else z % 18446744073709551616) = z
  rw [Bool.false_and, if_neg (by simp)]; omega
theorem wsucc {k : Nat} (h : k < 9223372036854775807) : wrapF .i64 (Int.add (k : Int) 1) = ((k + 1 : Nat) : Int) := by
  rw [w64 (by show _ ≤ (k : Int) + 1; omega) (by show (k : Int) + 1 < _; omega)]; rfl
theorem idx_ok {k n : Nat} (h : k < n) : idxOk (k : Int) n := ⟨Int.natCast_nonneg k, by omega⟩
theorem idx_ok0 {n : Nat} (h : 0 < n) : idxOk 0 n := ⟨by decide, by omega⟩
theorem nth_enc {α : Type} {E : Enc α} (he : E.e = 1) : ∀ {l : List α} {k : Nat} (h : k < l.length), nth k (l.flatMap E.f) = nth 0 (E.f l[k])
  | a :: l, 0, h => by
    rw [List.flatMap_cons, nth_eq, nth_eq]
    have := E.len a
    rw [List.getElem?_append_left (by omega)]; rfl
  | a :: l, k + 1, h => by
    have h1 := E.len a
    rw [List.flatMap_cons, nth_eq, List.getElem?_append_right (by omega), h1, he, ← nth_eq]
    exact nth_enc he (l := l) (k := k) (by simpa using h)
theorem nth_int {q : IntKind} {l : List Int} {k : Nat} (h : k < l.length) : nth (Nat.mul k 1) (l.flatMap (Enc.int q).f) = some (.int q l[k]) := by
  rw [show Nat.mul k 1 = k from Nat.mul_one k]; exact nth_enc (E := Enc.int q) rfl h
theorem nth_lst {α : Type} {E : Enc α} {l : List (List α)} {k : Nat} (h : k < l.length) : nth (Nat.mul k 1) (l.flatMap (Enc.list E).f) = some (lst E l[k]) := by
  rw [show Nat.mul k 1 = k from Nat.mul_one k]; exact nth_enc (E := Enc.list E) rfl h
theorem nth_int0 {q : IntKind} {l : List Int} (h : 0 < l.length) : nth 0 (l.flatMap (Enc.int q).f) = some (.int q l[0]) := nth_enc (E := Enc.int q) rfl h
theorem nth_lst0 {α : Type} {E : Enc α} {l : List (List α)} (h : 0 < l.length) : nth 0 (l.flatMap (Enc.list E).f) = some (lst E l[0]) := nth_enc (E := Enc.list E) rfl h
theorem any_take_succ {α : Type} {p : α → Bool} {l : List α} {k : Nat} (h : k < l.length) : (l.take (k + 1)).any p = ((l.take k).any p || p l[k]) := by
  rw [← List.take_append_getElem h, List.any_append]; simp
theorem all_take_succ {α : Type} {p : α → Bool} {l : List α} {k : Nat} (h : k < l.length) : (l.take (k + 1)).all p = ((l.take k).all p && p l[k]) := by
  rw [← List.take_append_getElem h, List.all_append]; simp
theorem any_of_get {α : Type} {p : α → Bool} {l : List α} {k : Nat} (h : k < l.length) (hp : p l[k] = true) : l.any p = true := List.any_eq_true.2 ⟨_, List.getElem_mem h, hp⟩
theorem all_of_get {α : Type} {p : α → Bool} {l : List α} {k : Nat} (h : k < l.length) (hp : p l[k] = false) : l.all p = false := by
  rw [← Bool.not_eq_true, List.all_eq_true]; intro q; rw [q _ (List.getElem_mem h)] at hp; cases hp
theorem ifp_lt {a b : Int} {x y : Prop} : ifp (!leInt b a) x y = if a < b then x else y := by
  rw [ifp_nle]; by_cases h : b ≤ a
  · rw [if_pos h, if_neg (by omega)]
  · rw [if_neg h, if_pos (by omega)]
theorem wk_vs0 {α : Type} {E : Enc α} {l : List α} : Wk (.vs (l.flatMap E.f) l.length l.length false none E.e) (lst E l) := Wk.refl _
theorem tells_int {q : IntKind} {a b : Int} (h : a = b) : Tells (.int q a) (.int q b) := by subst h; exact tells_free rfl rfl
theorem tells_bool {a b : Bool} (h : a = b) : Tells (.bool a) (.bool b) := by subst h; exact tells_free rfl rfl
theorem take_all {α : Type} {l : List α} {k : Nat} (h : ¬ k < l.length) : l.take k = l := List.take_of_length_le (by omega)
theorem drop_get {α : Type} {l : List α} {k : Nat} (h : k < l.length) : l.drop k = l[k] :: l.drop (k + 1) := List.drop_eq_getElem_cons h
theorem ifp_pos {b : Bool} {x y : Prop} (h : b = true) : ifp b x y = x := by subst h; rfl
theorem ifp_neg {b : Bool} {x y : Prop} (h : b = false) : ifp b x y = y := by subst h; rfl
theorem roomy_small {n b : Nat} (h : n ≤ 1000000000) (hb : b ≤ 100) : roomy n b = true := by
  refine ble_t ?_
  have : (2 * n + 1024) * (b + 1) ≤ 2000001024 * 101 := Nat.mul_le_mul (by omega) (by omega)
  show (2 * n + 1024) * (b + 1) ≤ 70368744177664
  omega
theorem fdrop1 {α : Type} {E : Enc α} (he : E.e = 1) : ∀ (l : List α) (k : Nat), (l.flatMap E.f).drop k = (l.drop k).flatMap E.f
  | [], k => by simp
  | a :: l, 0 => rfl
  | a :: l, k + 1 => by
    have h1 := E.len a
    rw [List.flatMap_cons, List.drop_append, h1, he, List.drop_of_length_le (by rw [h1, he]; omega), List.nil_append, show k + 1 - 1 = k by omega, fdrop1 he l k]; rfl
theorem ftake1 {α : Type} {E : Enc α} (he : E.e = 1) : ∀ (l : List α) (k : Nat), (l.flatMap E.f).take k = (l.take k).flatMap E.f
  | [], k => by simp
  | a :: l, 0 => rfl
  | a :: l, k + 1 => by
    have h1 := E.len a
    rw [List.flatMap_cons, List.take_append, h1, he, List.take_of_length_le (by rw [h1, he]; omega), show k + 1 - 1 = k by omega, ftake1 he l k]; rfl
theorem setAt_enc {α : Type} {E : Enc α} (he : E.e = 1) {l : List α} {k : Nat} {x : α} (h : k < l.length) : setAt k (E.f x) (l.flatMap E.f) = (l.set k x).flatMap E.f := by
  have h1 := E.len x
  rw [setAt, ftake1 he, h1, he, fdrop1 he, List.set_eq_take_append_cons_drop, if_pos h, List.flatMap_append, List.flatMap_cons, List.append_assoc]
theorem setAt_app {α : Type} {E : Enc α} (he : E.e = 1) {l m : List α} {k : Nat} (h : k + m.length ≤ l.length) : setAt k (m.flatMap E.f) (l.flatMap E.f) = (l.take k ++ m ++ l.drop (k + m.length)).flatMap E.f := by
  rw [setAt, ftake1 he, E.flen, he, Nat.mul_one, fdrop1 he, List.flatMap_append, List.flatMap_append]
theorem repl_enc {α : Type} {E : Enc α} {x : α} : ∀ n : Nat, repl n (E.f x) = (List.replicate n x).flatMap E.f
  | 0 => rfl
  | n + 1 => by rw [List.replicate_succ, List.flatMap_cons, ← repl_enc n]; rfl
theorem WkL.app : ∀ {a a' b b' : List AV}, WkL a a' → WkL b b' → WkL (a ++ b) (a' ++ b')
  | [], [], _, _, _, h => h
  | _ :: _, _ :: _, _, _, ⟨h, t⟩, h' => ⟨h, WkL.app t h'⟩
  | [], _ :: _, _, _, h, _ => h.elim
  | _ :: _, [], _, _, h, _ => h.elim
theorem wkl_snoc {α : Type} {E : Enc α} {l : List α} {x : α} {cs : List AV} (h : WkL cs (E.f x)) : WkL (l.flatMap E.f ++ cs) ((l ++ [x]).flatMap E.f) := by
  rw [List.flatMap_append]; exact WkL.app (WkL.refl _) (by simpa using h)
theorem wkl_one {α : Type} {E : Enc α} {x : α} {cs : List AV} (h : WkL cs (E.f x)) : WkL cs (([x] : List α).flatMap E.f) := by simpa using h
theorem wkl_app {α : Type} {E : Enc α} {l m : List α} : WkL (l.flatMap E.f ++ m.flatMap E.f) ((l ++ m).flatMap E.f) := by rw [List.flatMap_append]; exact WkL.refl _
theorem len_snoc {α : Type} {l : List α} {x : α} : Nat.add l.length 1 = (l ++ [x]).length := by simp
theorem len_app {α : Type} {l m : List α} : Nat.add l.length m.length = (l ++ m).length := by simp
theorem wk_of_own {α : Type} {E : Enc α} {l : List α} {b : Nat} : Wk (own E l b) (lst E l) := wk_vs ⟨rfl, rfl, rfl⟩
end Go.Det
