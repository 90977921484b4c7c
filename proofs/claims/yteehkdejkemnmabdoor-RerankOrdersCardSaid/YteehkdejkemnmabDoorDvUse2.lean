/- Rows of elements of many cells. -/
import Derived.Test.YteehkdejkemnmabDoorDvUse
set_option linter.unusedVariables false
set_option linter.unusedSimpArgs false
namespace Go.Det
variable {α : Type} {E : Enc α}

theorem enc_get : ∀ (l : List α) (k j : Nat) (h : k < l.length), j < E.e → (l.flatMap E.f)[k * E.e + j]? = (E.f l[k])[j]?
  | [], k, j, h, _ => by simp at h
  | a :: l, 0, j, h, hj => by
    rw [List.flatMap_cons, List.getElem?_append_left (by rw [E.len]; omega)]; simp
  | a :: l, k + 1, j, h, hj => by
    have e : (k + 1) * E.e = k * E.e + E.e := Nat.succ_mul _ _
    rw [List.flatMap_cons, List.getElem?_append_right (by rw [E.len]; omega), E.len, show (k + 1) * E.e + j - E.e = k * E.e + j by omega]
    exact enc_get l k j (by simpa using h) hj
theorem enc_take : ∀ (l : List α) (k : Nat), (l.flatMap E.f).take (k * E.e) = (l.take k).flatMap E.f
  | [], k => by simp
  | a :: l, 0 => by simp
  | a :: l, k + 1 => by
    rw [show (k + 1) * E.e = (E.f a).length + k * E.e by rw [E.len, Nat.succ_mul, Nat.add_comm], List.take_succ_cons, List.flatMap_cons, List.flatMap_cons, List.take_length_add_append, enc_take l k]
theorem enc_drop : ∀ (l : List α) (k : Nat), (l.flatMap E.f).drop (k * E.e) = (l.drop k).flatMap E.f
  | [], k => by simp
  | a :: l, 0 => by simp
  | a :: l, k + 1 => by
    rw [show (k + 1) * E.e = (E.f a).length + k * E.e by rw [E.len, Nat.succ_mul, Nat.add_comm], List.drop_succ_cons, List.flatMap_cons, List.drop_length_add_append, enc_drop l k]
theorem enc_set {l : List α} {k : Nat} {x : α} (h : k < l.length) : setAt (k * E.e) (E.f x) (l.flatMap E.f) = (l.set k x).flatMap E.f := by
  rw [setAt, enc_take, E.len, show k * E.e + E.e = (k + 1) * E.e from (Nat.succ_mul _ _).symm, enc_drop, List.set_eq_take_append_cons_drop, if_pos h, List.flatMap_append, List.flatMap_cons, List.append_assoc]
theorem enc_len (l : List α) : (l.flatMap E.f).length = l.length * E.e := Enc.flen E l
theorem enc_fit {l : List α} {k n : Nat} (h : k < n) (hn : l.length = n) : k * E.e + E.e ≤ (l.flatMap E.f).length := by
  rw [enc_len, hn, ← Nat.succ_mul]; exact Nat.mul_le_mul_right _ h
end Go.Det
