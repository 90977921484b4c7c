/- Forms and contracts, printed by gx.py. -/
import Derived.Test.YtfcdpdejoogapaaRows
import Derived.Test.YtfcdpdejoogapaaDvUse
import Derived.Test.YtfcdpdejoogapaaDvArg
import Derived.ProofKit
import Derived.Test.YtfcdpdejoogapaaBase
import Derived.Test.YtfcdpdejoogapaaSort
import Derived.Test.YtfcdpdejoogapaaDvSort
import Derived.Test.YtfcdpdejoogapaaDvHp
import Derived.Test.YtfcdpdejoogapaaRank
import Derived.Test.YtfcdpdejoogapaaHeap
import Derived.Test.YtfcdpdejoogapaaDvStab
namespace Go.Proofs.Ytfcdpdejoogapaa
open Go.Det Go.RowKit
set_option linter.unusedVariables false
set_option linter.unusedSimpArgs false
set_option maxRecDepth 100000
theorem lives04Ran : answersTrue ((run Try.prog 1000).call 10 [] st0) = true := by kernel_rfl
noncomputable def lives04K : CallC := valC .nil (fun _ => True) (fun _ => .bool true)
theorem lives04Cc : CcOk Try.prog 10 lives04K := val_ok rfl fun _ _ st => CallS.closed_ran mixed lives04Ran st

/-! wayfinder/rank.New -/
abbrev newZ := (Int × Unit) × (Unit)
noncomputable def newT : Tel (Int × Unit) := .cons 0 (.int .i64) (.nil)
noncomputable def newBl : BTel (Unit) := .nil
noncomputable def newRes (R0 : newZ → (Unit × Int × Unit) → (Unit) → Prop) (R1 : newZ → (Unit × Int × Unit) → ((Int × Unit × Unit) × Unit) → Prop) : List (Res newZ) := [⟨Unit × Int × Unit, Unit, .cons 0 (.con (.nilPtr) rfl) (.cons 1 (.int .i64) (.nil)), .nil, R0⟩, ⟨Unit × Int × Unit, (Int × Unit × Unit) × Unit, .cons 0 (.ptr 0) (.cons 1 (.int .i64) (.nil)), .cons (.row (.cons 0 (.int .i64) (.cons 1 (.nilS) (.nil)))) (.nil), R1⟩]

theorem newFn (k : Int) (R0 : newZ → (Unit × Int × Unit) → (Unit) → Prop) (R1 : newZ → (Unit × Int × Unit) → ((Int × Unit × Unit) × Unit) → Prop) : (callW Try.prog (runW Try.prog (KL [] []) 200) 12 (newT.cells id (k, ())) (stL false (newBl.obs id ())) (fun v st => resAny 0 ((k, ()), ()) v st (newRes R0 R1))) =
  ( ifp (!leInt (0 : Int) k) (AV.nilPtr = AV.nilPtr ∧ true = true ∧ R0 ((k, ()), ()) ((), (2 : Int), ()) () ∨ False) (ifp (!leInt k (16777216 : Int)) (AV.nilPtr =
  AV.nilPtr ∧ true = true ∧ R0 ((k, ()), ()) ((), (2 : Int), ()) () ∨ False) (AV.ptr (0 : Nat) (0 : Nat) = AV.nilPtr ∧ true = true ∧ R0 ((k, ()), ()) ((), (0 :
  Int), ()) () ∨ true = true ∧ R1 ((k, ()), ()) ((), (0 : Int), ()) ((k, (), ()), ())))) := by kernel_rfl

def newPre : newZ → Prop := fun ((k, ()), ()) => True
def newR0 : newZ → (Unit × Int × Unit) → (Unit) → Prop := fun ((k, ()), ()) (_, e, _) _ => e = 2 ∧ (k < 0 ∨ 16777216 < k)
def newR1 : newZ → (Unit × Int × Unit) → ((Int × Unit × Unit) × Unit) → Prop := fun ((k, ()), ()) (_, e, _) ((k2, _), _) => e = 0 ∧ 0 ≤ k ∧ k ≤ 16777216 ∧ k2 = k
noncomputable def newK : CallC := callC 0 newT newBl newPre (newRes newR0 newR1)

theorem newStep (z : newZ) (hp : newPre z) : callW Try.prog (runW Try.prog (KL [] []) 200) 12 (newT.cells id z.1) (stL false (newBl.obs id z.2)) (fun v st => resAny 0 z v st (newRes newR0 newR1)) := by
  obtain ⟨⟨k, _⟩, _⟩ := z
  refine (newFn k _ _).mpr ?_
  rw [ifp_lt, ifp_lt]
  split
  · rename_i h; exact Or.inl ⟨rfl, (by first | exact trivial | exact rfl), rfl, Or.inl h⟩
  · rename_i h
    split
    · rename_i h2; exact Or.inl ⟨rfl, (by first | exact trivial | exact rfl), rfl, Or.inr h2⟩
    · rename_i h2; exact Or.inr ⟨rfl, (by first | exact trivial | exact rfl), by omega, by omega, rfl⟩
theorem newCc : CcOk Try.prog 12 newK := call_ok mixed (KL_ok (cc_nil)) rfl newStep

/-! wayfinder/wayfinderref04.New -/
abbrev rnewZ := (Int × Unit) × (Unit)
noncomputable def rnewT : Tel (Int × Unit) := .cons 0 (.int .i64) (.nil)
noncomputable def rnewBl : BTel (Unit) := .nil
noncomputable def rnewRes (R0 : rnewZ → (Unit × Int × Unit) → (Unit) → Prop) (R1 : rnewZ → (Unit × Int × Unit) → ((Int × (List Near) × Unit) × Unit) → Prop) : List (Res rnewZ) := [⟨Unit × Int × Unit, Unit, .cons 0 (.con (.nilPtr) rfl) (.cons 1 (.int .i64) (.nil)), .nil, R0⟩, ⟨Unit × Int × Unit, (Int × (List Near) × Unit) × Unit, .cons 0 (.ptr 0) (.cons 1 (.int .i64) (.nil)), .cons (.row (.cons 0 (.int .i64) (.cons 1 (.lst En) (.nil)))) (.nil), R1⟩]

theorem rnewFn (k : Int) (R0 : rnewZ → (Unit × Int × Unit) → (Unit) → Prop) (R1 : rnewZ → (Unit × Int × Unit) → ((Int × (List Near) × Unit) × Unit) → Prop) : (callW Try.prog (runW Try.prog (KL [] []) 200) 19 (rnewT.cells id (k, ())) (stL false (rnewBl.obs id ())) (fun v st => resAny 0 ((k, ()), ()) v st (rnewRes R0 R1))) =
  ( ifp (!leInt (0 : Int) k) (AV.nilPtr = AV.nilPtr ∧ true = true ∧ R0 ((k, ()), ()) ((), (2 : Int), ()) () ∨ False) (ifp (!leInt k (16777216 : Int)) (AV.nilPtr =
  AV.nilPtr ∧ true = true ∧ R0 ((k, ()), ()) ((), (2 : Int), ()) () ∨ False) (AV.ptr (0 : Nat) (0 : Nat) = AV.nilPtr ∧ true = true ∧ R0 ((k, ()), ()) ((), (0 :
  Int), ()) () ∨ ∃ (l : List Near), Wk AV.nilSlice (lst En l) ∧ true = true ∧ R1 ((k, ()), ()) ((), (0 : Int), ()) ((k, l, ()), ())))) := by kernel_rfl

def rnewPre : rnewZ → Prop := fun ((k, ()), ()) => True
def rnewR0 : rnewZ → (Unit × Int × Unit) → (Unit) → Prop := fun ((k, ()), ()) (_, e, _) _ => e = 2 ∧ (k < 0 ∨ 16777216 < k)
def rnewR1 : rnewZ → (Unit × Int × Unit) → ((Int × (List Near) × Unit) × Unit) → Prop := fun ((k, ()), ()) (_, e, _) ((k2, L, _), _) => e = 0 ∧ 0 ≤ k ∧ k ≤ 16777216 ∧ k2 = k ∧ L = []
noncomputable def rnewK : CallC := callC 0 rnewT rnewBl rnewPre (rnewRes rnewR0 rnewR1)

theorem rnewStep (z : rnewZ) (hp : rnewPre z) : callW Try.prog (runW Try.prog (KL [] []) 200) 19 (rnewT.cells id z.1) (stL false (rnewBl.obs id z.2)) (fun v st => resAny 0 z v st (rnewRes rnewR0 rnewR1)) := by
  obtain ⟨⟨k, _⟩, _⟩ := z
  refine (rnewFn k _ _).mpr ?_
  rw [ifp_lt, ifp_lt]
  split
  · rename_i h; exact Or.inl ⟨rfl, (by first | exact trivial | exact rfl), rfl, Or.inl h⟩
  · rename_i h
    split
    · rename_i h2; exact Or.inl ⟨rfl, (by first | exact trivial | exact rfl), rfl, Or.inr h2⟩
    · rename_i h2; exact Or.inr ⟨[], wk_nil _, (by first | exact trivial | exact rfl), (by first | exact trivial | exact rfl), by omega, by omega, rfl, rfl⟩
theorem rnewCc : CcOk Try.prog 19 rnewK := call_ok mixed (KL_ok (cc_nil)) rfl rnewStep


theorem weakLess : Go.Det.Stab.Weak lessV where
  irr := ltLess.irr
  tr a b c h1 h2 := ltLess.tr _ _ _ h1 h2
  ntr a b c h1 h2 := ltLess.le_tr (a := c) (b := b) (c := a) h2 h1
theorem near_stab (l : List Near) : nearSort l = Go.Det.Stab.sort lessV l := srt_unique (nearSort_srt l) (Go.Det.Stab.sort_srt weakLess l) ((nearSort_perm l).trans (Go.Det.Stab.sort_perm l).symm)
def topL (k : Int) (X : List Near) : List Near := (nearSort X).take k.toNat
theorem topL_len (k : Int) (X : List Near) : (topL k X).length = min k.toNat X.length := by rw [topL, List.length_take, nearSort_len]
theorem topL_srt (k : Int) (X : List Near) : Srt (topL k X) := (nearSort_srt X).sublist (List.take_sublist _ _)
theorem topL_perm {X Y : List Near} (k : Int) (h : X.Perm Y) : topL k X = topL k Y := by
  rw [topL, topL, srt_unique (nearSort_srt X) (nearSort_srt Y) ((nearSort_perm X).trans (h.trans (nearSort_perm Y).symm))]
theorem ins_mg {L : List Near} (h : Srt L) (n : Near) : insV L n = Go.Det.Stab.mg lessV L [n] := by
  have h1 : insV L n = nearSort (L ++ [n]) := srt_unique (ins_sorted h n) (nearSort_srt _) (((ins_perm L n).trans (List.perm_append_comm (l₁ := [n]) (l₂ := L))).trans (nearSort_perm _).symm)
  rw [h1, near_stab, Go.Det.Stab.sort_snoc, Go.Det.Stab.sort_id h]
theorem top_snoc (k : Int) (X : List Near) (n : Near) : topL k (X ++ [n]) = (insV (topL k X) n).take k.toNat := by
  rw [ins_mg (topL_srt k X), topL, topL, near_stab, near_stab, Go.Det.Stab.sort_snoc, ← Go.Det.Stab.mg_take k.toNat _ [n] k.toNat (k.toNat + 1) (Nat.le_refl _) (Nat.le_succ _)]
  rw [show [n].take (k.toNat + 1) = [n] by simp]
theorem radd_top {k : Int} (k0 : 0 ≤ k) (X : List Near) (n : Near) : raddL k (topL k X) n = topL k (X ++ [n]) := by
  rw [top_snoc]
  rw [raddL]
  split
  · rfl
  · rename_i hk
    have hk' : keepV k (topL k X) n = false := by simpa using hk
    simp only [keepV, Bool.not_eq_false', Bool.and_eq_true, decide_eq_true_eq, Bool.or_eq_true] at hk'
    obtain ⟨h1, h2⟩ := hk'
    have hl : (topL k X).length = k.toNat := by omega
    rw [ins_mg (topL_srt k X)]
    rcases h2 with h2 | h2
    · have : k.toNat = 0 := by omega
      rw [this, List.take_zero]
      exact List.length_eq_zero_iff.1 (by omega)
    · have hn : ∀ x ∈ topL k X, lessV n x = false := by
        intro x hx
        obtain ⟨i, hi, rfl⟩ := List.getElem_of_mem hx
        obtain ⟨p, hp⟩ : ∃ p, (topL k X).length = p + 1 := ⟨(topL k X).length - 1, by omega⟩
        rw [last_get n hp] at h2
        have h2' : lessV n ((topL k X)[p]'(by omega)) = false := by simpa using h2
        exact ltLess.le_tr ((topL_srt k X).get hi (by omega) (by omega)) h2'
      have := Go.Det.Stab.mg_split (lt := lessV) _ (topL k X) [] [] [n] (Nat.le_refl _) (fun x hx y hy => by simp at hy; subst hy; exact hn x hx) (fun y hy => by cases hy)
      simp only [List.append_nil, List.nil_append, Go.Det.Stab.mg_nil, Go.Det.Stab.mg_nil'] at this
      rw [this, List.take_append_of_le_length (by omega), List.take_of_length_le (by omega)]
theorem top_mono {k : Int} {X : List Near} {n x : Near} (k0 : 0 ≤ k) (hl : ((topL k X).length : Int) = k) (hk : k ≠ 0) (hx : x ∈ topL k (X ++ [n])) : lessV ((topL k X).getLastD n) x = false := by
  obtain ⟨p, hp⟩ : ∃ p, (topL k X).length = p + 1 := ⟨(topL k X).length - 1, by omega⟩
  rw [last_get n hp]
  have hT : ∀ y ∈ topL k X, lessV ((topL k X)[p]'(by omega)) y = false := by
    intro y hy
    obtain ⟨i, hi, rfl⟩ := List.getElem_of_mem hy
    exact (topL_srt k X).get hi (by omega) (by omega)
  rw [← radd_top k0, raddL] at hx
  split at hx
  · rename_i hkeep
    have hm := (List.take_sublist _ _).mem hx
    rcases List.mem_cons.1 ((ins_perm _ _).mem_iff.1 hm) with rfl | hy
    · have hlt : lessV x ((topL k X).getLastD x) = true := by
        simp only [keepV, Bool.not_eq_true', Bool.and_eq_false_iff, decide_eq_false_iff_not, Bool.or_eq_false_iff, Bool.not_eq_false'] at hkeep
        rcases hkeep with h | ⟨_, h⟩
        · exact absurd hl h
        · exact h
      rw [last_get x hp] at hlt
      exact ltLess.asym hlt
    · exact hT x hy
  · exact hT x hx
theorem top_nil (k : Int) : topL k [] = [] := by simp [topL, nearSort]
theorem TopOk.top {k : Int} {m L m2 : List Near} {n : Near} {b : Bool} (h : TopOk k m L) (k0 : 0 ≤ k) (ha : addOk k m n b m2) {X : List Near} (hL : L = topL k X) : TopOk k m2 (topL k (X ++ [n])) := by
  have := (h.add k0 ha).2
  rwa [hL, radd_top k0] at this
theorem count_top (k : Int) (l : List Near) (y : Near) : (topL k l).count y ≤ l.count y := by
  rw [← (nearSort_perm l).count_eq y]
  exact (List.take_sublist _ _).count_le _
theorem top_out {k : Int} {l : List Near} {y : Near} (h : (topL k l).count y < l.count y) (h0 : 0 < (topL k l).length) : lessV y ((topL k l).getLastD y) = false := by
  obtain ⟨p, hp⟩ : ∃ p, (topL k l).length = p + 1 := ⟨(topL k l).length - 1, by omega⟩
  rw [last_get y hp]
  have hs : nearSort l = topL k l ++ (nearSort l).drop k.toNat := (List.take_append_drop _ _).symm
  have hc : 0 < ((nearSort l).drop k.toNat).count y := by
    have := (nearSort_perm l).count_eq y
    rw [hs, List.count_append] at this; omega
  have hy := List.count_pos_iff.1 hc
  have hp2 : (topL k l)[p]'(by omega) ∈ topL k l := List.getElem_mem _
  have hS := nearSort_srt l
  rw [hs] at hS
  exact (List.pairwise_append.1 hS).2.2 _ hp2 _ hy

abbrev VW (l m : List Near) : Prop := Wk (AV.vs (List.flatMap En.f l) l.length l.length false none (2 : Nat)) (lst En m)
abbrev FE (l m : List Near) : Prop := List.flatMap En.f l = List.flatMap En.f m

def MaR (k : Int) (X : List Near) (u : Nat) (m1 m2 m3 : List Near) : Prop := TopOk k m1 (topL k X) ∧ TopOk k m2 (topL k (X.take u)) ∧ TopOk k m3 (topL k (X.drop u))
theorem ma_lt {k : Int} {l : List Near} {q u : Nat} {m1 m2 m3 p1 p2 : List Near} {b1 b2 : Bool} (hq : q < l.length) (hu : q < u) (k0 : 0 ≤ k) (h : MaR k (l.take q) u m1 m2 m3) (a1 : addOk k m1 l[q] b1 p1) (a2 : addOk k m2 l[q] b2 p2) : MaR k (l.take (q + 1)) u p1 p2 m3 := by
  obtain ⟨h1, h2, h3⟩ := h
  refine ⟨?_, ?_, ?_⟩
  · have := h1.top k0 a1 rfl
    rwa [List.take_append_getElem hq] at this
  · have := h2.top k0 a2 rfl
    rw [List.take_of_length_le (by rw [List.length_take]; omega), List.take_append_getElem hq] at this
    rwa [List.take_of_length_le (by rw [List.length_take]; omega)]
  · rw [List.drop_of_length_le (by rw [List.length_take]; omega)] at h3 ⊢
    exact h3
theorem ma_ge {k : Int} {l : List Near} {q u : Nat} {m1 m2 m3 p1 p3 : List Near} {b1 b3 : Bool} (hq : q < l.length) (hu : u ≤ q) (k0 : 0 ≤ k) (h : MaR k (l.take q) u m1 m2 m3) (a1 : addOk k m1 l[q] b1 p1) (a3 : addOk k m3 l[q] b3 p3) : MaR k (l.take (q + 1)) u p1 m2 p3 := by
  obtain ⟨h1, h2, h3⟩ := h
  refine ⟨?_, ?_, ?_⟩
  · have := h1.top k0 a1 rfl
    rwa [List.take_append_getElem hq] at this
  · rw [List.take_take, Nat.min_eq_left (by omega)] at h2 ⊢
    exact h2
  · have := h3.top k0 a3 rfl
    rwa [← List.take_append_getElem hq, List.drop_append_of_le_length (by rw [List.length_take]; omega)]
theorem add_0 {k : Int} {n : Near} (h : k = 0) : addOk k [] n false [] := by rw [addOk, if_neg (by simp; omega), if_pos (Or.inl h)]; exact ⟨rfl, rfl⟩
theorem add_1 {k : Int} {n : Near} (h : 0 < k) : addOk k [] n true [n] := by rw [addOk, if_pos (by simp; omega)]; exact ⟨rfl, List.Perm.refl _, fun j hj h0 => by simp at hj; omega⟩
theorem TopOk.le {k : Int} {m X : List Near} (h : TopOk k m (topL k X)) : m.length ≤ X.length := by have := h.len; have := topL_len k X; omega

/-! The loop ma of wayfinder/wayfinderlaw04.RankMerges. -/
abbrev maZ := ((List Near) × Int × Int × Nat × Int × Unit) × ((Unit × Unit × Unit × Unit × Unit) × (Int × (Nat × Nat) × Unit) × (Int × (Nat × Nat) × Unit) × (Int × (Nat × Nat) × Unit) × (Int × Unit × Unit) × (List Near) × (List Near) × (List Near) × Unit)
noncomputable def maSl : Tel ((List Near) × Int × Int × Nat × Int × Unit) := .cons 0 (.lst En) (.cons 1 (.int .i64) (.cons 2 (.int .i64) (.cons 7 (.sl 0 1) (.cons 11 (.int .i64) (.nil)))))
noncomputable def maBl : BTel ((Unit × Unit × Unit × Unit × Unit) × (Int × (Nat × Nat) × Unit) × (Int × (Nat × Nat) × Unit) × (Int × (Nat × Nat) × Unit) × (Int × Unit × Unit) × (List Near) × (List Near) × (List Near) × Unit) := .cons (.row (.cons 0 (.ptr 1) (.cons 1 (.ptr 2) (.cons 2 (.ptr 3) (.cons 3 (.ptr 4) (.nil)))))) (.cons (.row (.cons 0 (.int .i64) (.cons 1 (.slq 5 2) (.nil)))) (.cons (.row (.cons 0 (.int .i64) (.cons 1 (.slq 6 2) (.nil)))) (.cons (.row (.cons 0 (.int .i64) (.cons 1 (.slq 7 2) (.nil)))) (.cons (.row (.cons 0 (.int .i64) (.cons 1 (.nilS) (.nil)))) (.cons (.rows En 30) (.cons (.rows En 30) (.cons (.rows En 30) (.nil))))))))
noncomputable def maSl0 : Tel ((List Near) × Int × Int × Nat × Int × Unit) := .cons 0 (.lst En) (.cons 1 (.int .i64) (.cons 2 (.int .i64) (.cons 7 (.sl 0 1) (.cons 11 (.int .i64) (.nil)))))
noncomputable def maBl0 : BTel ((Unit × Unit × Unit × Unit × Unit) × (Int × Unit × Unit) × (Int × Unit × Unit) × (Int × Unit × Unit) × (Int × Unit × Unit) × Unit) := .cons (.row (.cons 0 (.ptr 1) (.cons 1 (.ptr 2) (.cons 2 (.ptr 3) (.cons 3 (.ptr 4) (.nil)))))) (.cons (.row (.cons 0 (.int .i64) (.cons 1 (.nilS) (.nil)))) (.cons (.row (.cons 0 (.int .i64) (.cons 1 (.nilS) (.nil)))) (.cons (.row (.cons 0 (.int .i64) (.cons 1 (.nilS) (.nil)))) (.cons (.row (.cons 0 (.int .i64) (.cons 1 (.nilS) (.nil)))) (.nil)))))
noncomputable def maZ0 : ((List Near) × Int × Int × Nat × Int × Unit) → ((Unit × Unit × Unit × Unit × Unit) × (Int × Unit × Unit) × (Int × Unit × Unit) × (Int × Unit × Unit) × (Int × Unit × Unit) × Unit) → maZ := fun (l, (u, (k, (s, (i, ()))))) (((), ((), ((), ((), ())))), ((k1, ((), ())), ((k2, ((), ())), ((k3, ((), ())), ((k4, ((), ())), ()))))) => ((l, (u, (k, (s, (i, ()))))), (((), ((), ((), ((), ())))), ((k1, ((0, 0), ())), ((k2, ((0, 0), ())), ((k3, ((0, 0), ())), ((k4, ((), ())), ([], ([], ([], ())))))))))
noncomputable def maSl1 : Tel ((List Near) × Int × Int × Nat × Int × Unit) := .cons 0 (.lst En) (.cons 1 (.int .i64) (.cons 2 (.int .i64) (.cons 7 (.sl 0 1) (.cons 11 (.int .i64) (.nil)))))
noncomputable def maBl1 : BTel ((Unit × Unit × Unit × Unit × Unit) × (Int × (Nat × Nat) × Unit) × (Int × (Nat × Nat) × Unit) × (Int × Unit × Unit) × (Int × Unit × Unit) × (List Near) × (List Near) × Unit) := .cons (.row (.cons 0 (.ptr 1) (.cons 1 (.ptr 2) (.cons 2 (.ptr 3) (.cons 3 (.ptr 4) (.nil)))))) (.cons (.row (.cons 0 (.int .i64) (.cons 1 (.slq 5 2) (.nil)))) (.cons (.row (.cons 0 (.int .i64) (.cons 1 (.slq 6 2) (.nil)))) (.cons (.row (.cons 0 (.int .i64) (.cons 1 (.nilS) (.nil)))) (.cons (.row (.cons 0 (.int .i64) (.cons 1 (.nilS) (.nil)))) (.cons (.rows En 30) (.cons (.rows En 30) (.nil)))))))
noncomputable def maZ1 : ((List Near) × Int × Int × Nat × Int × Unit) → ((Unit × Unit × Unit × Unit × Unit) × (Int × (Nat × Nat) × Unit) × (Int × (Nat × Nat) × Unit) × (Int × Unit × Unit) × (Int × Unit × Unit) × (List Near) × (List Near) × Unit) → maZ := fun (l, (u, (k, (s, (i, ()))))) (((), ((), ((), ((), ())))), ((k1, (h1, ())), ((k2, (h2, ())), ((k3, ((), ())), ((k4, ((), ())), (m1, (m2, ()))))))) => ((l, (u, (k, (s, (i, ()))))), (((), ((), ((), ((), ())))), ((k1, (h1, ())), ((k2, (h2, ())), ((k3, ((0, 0), ())), ((k4, ((), ())), (m1, (m2, ([], ())))))))))
noncomputable def maSl2 : Tel ((List Near) × Int × Int × Nat × Int × Unit) := .cons 0 (.lst En) (.cons 1 (.int .i64) (.cons 2 (.int .i64) (.cons 7 (.sl 0 1) (.cons 11 (.int .i64) (.nil)))))
noncomputable def maBl2 : BTel ((Unit × Unit × Unit × Unit × Unit) × (Int × (Nat × Nat) × Unit) × (Int × Unit × Unit) × (Int × (Nat × Nat) × Unit) × (Int × Unit × Unit) × (List Near) × (List Near) × Unit) := .cons (.row (.cons 0 (.ptr 1) (.cons 1 (.ptr 2) (.cons 2 (.ptr 3) (.cons 3 (.ptr 4) (.nil)))))) (.cons (.row (.cons 0 (.int .i64) (.cons 1 (.slq 5 2) (.nil)))) (.cons (.row (.cons 0 (.int .i64) (.cons 1 (.nilS) (.nil)))) (.cons (.row (.cons 0 (.int .i64) (.cons 1 (.slq 6 2) (.nil)))) (.cons (.row (.cons 0 (.int .i64) (.cons 1 (.nilS) (.nil)))) (.cons (.rows En 30) (.cons (.rows En 30) (.nil)))))))
noncomputable def maZ2 : ((List Near) × Int × Int × Nat × Int × Unit) → ((Unit × Unit × Unit × Unit × Unit) × (Int × (Nat × Nat) × Unit) × (Int × Unit × Unit) × (Int × (Nat × Nat) × Unit) × (Int × Unit × Unit) × (List Near) × (List Near) × Unit) → maZ := fun (l, (u, (k, (s, (i, ()))))) (((), ((), ((), ((), ())))), ((k1, (h1, ())), ((k2, ((), ())), ((k3, (h3, ())), ((k4, ((), ())), (m1, (m3, ()))))))) => ((l, (u, (k, (s, (i, ()))))), (((), ((), ((), ((), ())))), ((k1, (h1, ())), ((k2, ((0, 0), ())), ((k3, (h3, ())), ((k4, ((), ())), (m1, ([], (m3, ())))))))))
noncomputable def maFs : List (LForm maZ) := [⟨_, _, maSl, maBl, fun x y => (x, y)⟩, ⟨_, _, maSl0, maBl0, maZ0⟩, ⟨_, _, maSl1, maBl1, maZ1⟩, ⟨_, _, maSl2, maBl2, maZ2⟩]
noncomputable def maAlts (R0 : maZ → ((List Near) × Int × Int × Nat × Unit) → ((Unit × Unit × Unit × Unit × Unit) × (Int × (Nat × Nat) × Unit) × (Int × (Nat × Nat) × Unit) × (Int × (Nat × Nat) × Unit) × (Int × Unit × Unit) × (List Near) × (List Near) × (List Near) × Unit) → Prop) (R1 : maZ → ((List Near) × Int × Int × Nat × Unit) → ((Unit × Unit × Unit × Unit × Unit) × (Int × Unit × Unit) × (Int × Unit × Unit) × (Int × Unit × Unit) × (Int × Unit × Unit) × Unit) → Prop) (R2 : maZ → ((List Near) × Int × Int × Nat × Unit) → ((Unit × Unit × Unit × Unit × Unit) × (Int × (Nat × Nat) × Unit) × (Int × (Nat × Nat) × Unit) × (Int × Unit × Unit) × (Int × Unit × Unit) × (List Near) × (List Near) × Unit) → Prop) (R3 : maZ → ((List Near) × Int × Int × Nat × Unit) → ((Unit × Unit × Unit × Unit × Unit) × (Int × (Nat × Nat) × Unit) × (Int × Unit × Unit) × (Int × (Nat × Nat) × Unit) × (Int × Unit × Unit) × (List Near) × (List Near) × Unit) → Prop) : List (Alt maZ) := [⟨.exit 2, (List Near) × Int × Int × Nat × Unit, (Unit × Unit × Unit × Unit × Unit) × (Int × (Nat × Nat) × Unit) × (Int × (Nat × Nat) × Unit) × (Int × (Nat × Nat) × Unit) × (Int × Unit × Unit) × (List Near) × (List Near) × (List Near) × Unit, .cons 0 (.lst En) (.cons 1 (.int .i64) (.cons 2 (.int .i64) (.cons 7 (.sl 0 1) (.nil)))), .cons (.row (.cons 0 (.ptr 1) (.cons 1 (.ptr 2) (.cons 2 (.ptr 3) (.cons 3 (.ptr 4) (.nil)))))) (.cons (.row (.cons 0 (.int .i64) (.cons 1 (.slq 5 2) (.nil)))) (.cons (.row (.cons 0 (.int .i64) (.cons 1 (.slq 6 2) (.nil)))) (.cons (.row (.cons 0 (.int .i64) (.cons 1 (.slq 7 2) (.nil)))) (.cons (.row (.cons 0 (.int .i64) (.cons 1 (.nilS) (.nil)))) (.cons (.rows En 30) (.cons (.rows En 30) (.cons (.rows En 30) (.nil)))))))), R0⟩, ⟨.exit 2, (List Near) × Int × Int × Nat × Unit, (Unit × Unit × Unit × Unit × Unit) × (Int × Unit × Unit) × (Int × Unit × Unit) × (Int × Unit × Unit) × (Int × Unit × Unit) × Unit, .cons 0 (.lst En) (.cons 1 (.int .i64) (.cons 2 (.int .i64) (.cons 7 (.sl 0 1) (.nil)))), .cons (.row (.cons 0 (.ptr 1) (.cons 1 (.ptr 2) (.cons 2 (.ptr 3) (.cons 3 (.ptr 4) (.nil)))))) (.cons (.row (.cons 0 (.int .i64) (.cons 1 (.nilS) (.nil)))) (.cons (.row (.cons 0 (.int .i64) (.cons 1 (.nilS) (.nil)))) (.cons (.row (.cons 0 (.int .i64) (.cons 1 (.nilS) (.nil)))) (.cons (.row (.cons 0 (.int .i64) (.cons 1 (.nilS) (.nil)))) (.nil))))), R1⟩, ⟨.exit 2, (List Near) × Int × Int × Nat × Unit, (Unit × Unit × Unit × Unit × Unit) × (Int × (Nat × Nat) × Unit) × (Int × (Nat × Nat) × Unit) × (Int × Unit × Unit) × (Int × Unit × Unit) × (List Near) × (List Near) × Unit, .cons 0 (.lst En) (.cons 1 (.int .i64) (.cons 2 (.int .i64) (.cons 7 (.sl 0 1) (.nil)))), .cons (.row (.cons 0 (.ptr 1) (.cons 1 (.ptr 2) (.cons 2 (.ptr 3) (.cons 3 (.ptr 4) (.nil)))))) (.cons (.row (.cons 0 (.int .i64) (.cons 1 (.slq 5 2) (.nil)))) (.cons (.row (.cons 0 (.int .i64) (.cons 1 (.slq 6 2) (.nil)))) (.cons (.row (.cons 0 (.int .i64) (.cons 1 (.nilS) (.nil)))) (.cons (.row (.cons 0 (.int .i64) (.cons 1 (.nilS) (.nil)))) (.cons (.rows En 30) (.cons (.rows En 30) (.nil))))))), R2⟩, ⟨.exit 2, (List Near) × Int × Int × Nat × Unit, (Unit × Unit × Unit × Unit × Unit) × (Int × (Nat × Nat) × Unit) × (Int × Unit × Unit) × (Int × (Nat × Nat) × Unit) × (Int × Unit × Unit) × (List Near) × (List Near) × Unit, .cons 0 (.lst En) (.cons 1 (.int .i64) (.cons 2 (.int .i64) (.cons 7 (.sl 0 1) (.nil)))), .cons (.row (.cons 0 (.ptr 1) (.cons 1 (.ptr 2) (.cons 2 (.ptr 3) (.cons 3 (.ptr 4) (.nil)))))) (.cons (.row (.cons 0 (.int .i64) (.cons 1 (.slq 5 2) (.nil)))) (.cons (.row (.cons 0 (.int .i64) (.cons 1 (.nilS) (.nil)))) (.cons (.row (.cons 0 (.int .i64) (.cons 1 (.slq 6 2) (.nil)))) (.cons (.row (.cons 0 (.int .i64) (.cons 1 (.nilS) (.nil)))) (.cons (.rows En 30) (.cons (.rows En 30) (.nil))))))), R3⟩]

theorem maForm (l : List Near) (u : Int) (k : Int) (s : Nat) (i : Int) (k1 : Int) (h1 : Nat × Nat) (k2 : Int) (h2 : Nat × Nat) (k3 : Int) (h3 : Nat × Nat) (k4 : Int) (m1 : List Near) (m2 : List Near) (m3 : List Near) (N : maZ → Prop) (R0 : maZ → ((List Near) × Int × Int × Nat × Unit) → ((Unit × Unit × Unit × Unit × Unit) × (Int × (Nat × Nat) × Unit) × (Int × (Nat × Nat) × Unit) × (Int × (Nat × Nat) × Unit) × (Int × Unit × Unit) × (List Near) × (List Near) × (List Near) × Unit) → Prop) (R1 : maZ → ((List Near) × Int × Int × Nat × Unit) → ((Unit × Unit × Unit × Unit × Unit) × (Int × Unit × Unit) × (Int × Unit × Unit) × (Int × Unit × Unit) × (Int × Unit × Unit) × Unit) → Prop) (R2 : maZ → ((List Near) × Int × Int × Nat × Unit) → ((Unit × Unit × Unit × Unit × Unit) × (Int × (Nat × Nat) × Unit) × (Int × (Nat × Nat) × Unit) × (Int × Unit × Unit) × (Int × Unit × Unit) × (List Near) × (List Near) × Unit) → Prop) (R3 : maZ → ((List Near) × Int × Int × Nat × Unit) → ((Unit × Unit × Unit × Unit × Unit) × (Int × (Nat × Nat) × Unit) × (Int × Unit × Unit) × (Int × (Nat × Nat) × Unit) × (Int × Unit × Unit) × (List Near) × (List Near) × Unit) → Prop) : ((runW Try.prog (KLS [(14, addK)] [] 30) 100).code none 4 122 (loopBody Try.prog 4 15) (mkT (maSl.av id (l, (u, (k, (s, (i, ()))))))) [] (stL false (maBl.obs id (((), ((), ((), ((), ())))), ((k1, (h1, ())), ((k2, (h2, ())), ((k3, (h3, ())), ((k4, ((), ())), (m1, (m2, (m3, ())))))))))) (postL 0 maFs (maAlts R0 R1 R2 R3) ((l, (u, (k, (s, (i, ()))))), (((), ((), ((), ((), ())))), ((k1, (h1, ())), ((k2, (h2, ())), ((k3, (h3, ())), ((k4, ((), ())), (m1, (m2, (m3, ()))))))))) N)) =
  ( ifp (!leInt (Int.ofNat l.length) i) (idxOk (0 : Int) s ∧ idxOk i l.length ∧ ∃ (x : Int), nth (((natOf i).mul (2 : Nat)).add (0 : Nat)) (List.flatMap En.f l) =
  some (AV.int IntKind.i64 x) ∧ ∃ (x_1 : Int), nth (((natOf i).mul (2 : Nat)).add (1 : Nat)) (List.flatMap En.f l) = some (AV.int IntKind.i64 x_1) ∧ ((∃ (a :
  Near), AV.agg [AV.int IntKind.i64 x, AV.int IntKind.i64 x_1] = AV.agg [AV.int IntKind.i64 a.fst, AV.int IntKind.i64 a.snd.fst] ∧ ∃ l_1, FE m1 l_1 ∧ true = true
  ∧ add1Pre (((), a, ()), (k1, (h1.fst, h1.snd), ()), l_1, ()) ∧ (∀ c d, add1R0 (((), a, ()), (k1, (h1.fst, h1.snd), ()), l_1, ()) c d → True ∧ True ∧ ifp
  (!leInt u i) (idxOk (1 : Int) s ∧ idxOk i l.length ∧ ∃ (x : Int), nth (((natOf i).mul (2 : Nat)).add (0 : Nat)) (List.flatMap En.f l) = some (AV.int
  IntKind.i64 x) ∧ ∃ (x_2 : Int), nth (((natOf i).mul (2 : Nat)).add (1 : Nat)) (List.flatMap En.f l) = some (AV.int IntKind.i64 x_2) ∧ ((∃ (a : Near), AV.agg
  [AV.int IntKind.i64 x, AV.int IntKind.i64 x_2] = AV.agg [AV.int IntKind.i64 a.fst, AV.int IntKind.i64 a.snd.fst] ∧ ∃ l_2, FE m2 l_2 ∧ true = true ∧ add1Pre
  (((), a, ()), (k2, (h2.fst, h2.snd), ()), l_2, ()) ∧ (∀ c d_1, add1R0 (((), a, ()), (k2, (h2.fst, h2.snd), ()), l_2, ()) c d_1 → True ∧ True ∧ True ∧ ((∃ l_3,
  VW l l_3 ∧ ∃ l, FE d.2.1 l ∧ ∃ l_4, FE d_1.2.1 l_4 ∧ ∃ l_5, FE m3 l_5 ∧ true = true ∧ N ((l_3, u, k, s, wrapF IntKind.i64 (i.add (1 : Int)), ()), ((), (), (),
  (), ()), (d.1.1, (d.1.2.1.fst, d.1.2.1.snd), ()), (d_1.1.1, (d_1.1.2.1.fst, d_1.1.2.1.snd), ()), (k3, (h3.fst, h3.snd), ()), (k4, (), ()), l, l_4, l_5, ())) ∨
  (∃ l_3, VW l l_3 ∧ False) ∨ (∃ l_3, VW l l_3 ∧ False) ∨ ∃ l_3, VW l l_3 ∧ False)) ∧ True) ∨ ∃ (a : Near), AV.agg [AV.int IntKind.i64 x, AV.int IntKind.i64 x_2]
  = AV.agg [AV.int IntKind.i64 a.fst, AV.int IntKind.i64 a.snd.fst] ∧ False)) (idxOk (2 : Int) s ∧ idxOk i l.length ∧ ∃ (x : Int), nth (((natOf i).mul (2 :
  Nat)).add (0 : Nat)) (List.flatMap En.f l) = some (AV.int IntKind.i64 x) ∧ ∃ (x_2 : Int), nth (((natOf i).mul (2 : Nat)).add (1 : Nat)) (List.flatMap En.f l) =
  some (AV.int IntKind.i64 x_2) ∧ ((∃ (a : Near), AV.agg [AV.int IntKind.i64 x, AV.int IntKind.i64 x_2] = AV.agg [AV.int IntKind.i64 a.fst, AV.int IntKind.i64
  a.snd.fst] ∧ ∃ l_2, FE m3 l_2 ∧ true = true ∧ add1Pre (((), a, ()), (k3, (h3.fst, h3.snd), ()), l_2, ()) ∧ (∀ c d_1, add1R0 (((), a, ()), (k3, (h3.fst,
  h3.snd), ()), l_2, ()) c d_1 → True ∧ True ∧ True ∧ ((∃ l_3, VW l l_3 ∧ ∃ l, FE d.2.1 l ∧ ∃ l_4, FE m2 l_4 ∧ ∃ l_5, FE d_1.2.1 l_5 ∧ true = true ∧ N ((l_3, u,
  k, s, wrapF IntKind.i64 (i.add (1 : Int)), ()), ((), (), (), (), ()), (d.1.1, (d.1.2.1.fst, d.1.2.1.snd), ()), (k2, (h2.fst, h2.snd), ()), (d_1.1.1,
  (d_1.1.2.1.fst, d_1.1.2.1.snd), ()), (k4, (), ()), l, l_4, l_5, ())) ∨ (∃ l_3, VW l l_3 ∧ False) ∨ (∃ l_3, VW l l_3 ∧ False) ∨ ∃ l_3, VW l l_3 ∧ False)) ∧
  True) ∨ ∃ (a : Near), AV.agg [AV.int IntKind.i64 x, AV.int IntKind.i64 x_2] = AV.agg [AV.int IntKind.i64 a.fst, AV.int IntKind.i64 a.snd.fst] ∧ False))) ∧
  True) ∨ ∃ (a : Near), AV.agg [AV.int IntKind.i64 x, AV.int IntKind.i64 x_1] = AV.agg [AV.int IntKind.i64 a.fst, AV.int IntKind.i64 a.snd.fst] ∧ False)) ((True
  ∧ ∃ l_1, VW l l_1 ∧ ∃ l_2, FE m1 l_2 ∧ ∃ l_3, FE m2 l_3 ∧ ∃ l_4, FE m3 l_4 ∧ true = true ∧ R0 ((l, u, k, s, i, ()), ((), (), (), (), ()), (k1, h1, ()), (k2,
  h2, ()), (k3, h3, ()), (k4, (), ()), m1, m2, m3, ()) (l_1, u, k, s, ()) (((), (), (), (), ()), (k1, (h1.fst, h1.snd), ()), (k2, (h2.fst, h2.snd), ()), (k3,
  (h3.fst, h3.snd), ()), (k4, (), ()), l_2, l_3, l_4, ())) ∨ (True ∧ ∃ l_1, VW l l_1 ∧ False) ∨ (True ∧ ∃ l_1, VW l l_1 ∧ False) ∨ True ∧ ∃ l_1, VW l l_1 ∧
  False)) := by kernel_rfl

theorem maForm0 (l : List Near) (u : Int) (k : Int) (s : Nat) (i : Int) (k1 : Int) (k2 : Int) (k3 : Int) (k4 : Int) (N : maZ → Prop) (R0 : maZ → ((List Near) × Int × Int × Nat × Unit) → ((Unit × Unit × Unit × Unit × Unit) × (Int × (Nat × Nat) × Unit) × (Int × (Nat × Nat) × Unit) × (Int × (Nat × Nat) × Unit) × (Int × Unit × Unit) × (List Near) × (List Near) × (List Near) × Unit) → Prop) (R1 : maZ → ((List Near) × Int × Int × Nat × Unit) → ((Unit × Unit × Unit × Unit × Unit) × (Int × Unit × Unit) × (Int × Unit × Unit) × (Int × Unit × Unit) × (Int × Unit × Unit) × Unit) → Prop) (R2 : maZ → ((List Near) × Int × Int × Nat × Unit) → ((Unit × Unit × Unit × Unit × Unit) × (Int × (Nat × Nat) × Unit) × (Int × (Nat × Nat) × Unit) × (Int × Unit × Unit) × (Int × Unit × Unit) × (List Near) × (List Near) × Unit) → Prop) (R3 : maZ → ((List Near) × Int × Int × Nat × Unit) → ((Unit × Unit × Unit × Unit × Unit) × (Int × (Nat × Nat) × Unit) × (Int × Unit × Unit) × (Int × (Nat × Nat) × Unit) × (Int × Unit × Unit) × (List Near) × (List Near) × Unit) → Prop) : ((runW Try.prog (KLS [(14, addK)] [] 30) 100).code none 4 122 (loopBody Try.prog 4 15) (mkT (maSl0.av id (l, (u, (k, (s, (i, ()))))))) [] (stL false (maBl0.obs id (((), ((), ((), ((), ())))), ((k1, ((), ())), ((k2, ((), ())), ((k3, ((), ())), ((k4, ((), ())), ()))))))) (postL 0 maFs (maAlts R0 R1 R2 R3) (maZ0 (l, (u, (k, (s, (i, ()))))) (((), ((), ((), ((), ())))), ((k1, ((), ())), ((k2, ((), ())), ((k3, ((), ())), ((k4, ((), ())), ())))))) N)) =
  ( ifp (!leInt (Int.ofNat l.length) i) (idxOk (0 : Int) s ∧ idxOk i l.length ∧ ∃ (x : Int), nth (((natOf i).mul (2 : Nat)).add (0 : Nat)) (List.flatMap En.f l) =
  some (AV.int IntKind.i64 x) ∧ ∃ (x_1 : Int), nth (((natOf i).mul (2 : Nat)).add (1 : Nat)) (List.flatMap En.f l) = some (AV.int IntKind.i64 x_1) ∧ ((∃ (a :
  Near), AV.agg [AV.int IntKind.i64 x, AV.int IntKind.i64 x_1] = AV.agg [AV.int IntKind.i64 a.fst, AV.int IntKind.i64 a.snd.fst] ∧ False) ∨ ∃ (a : Near), AV.agg
  [AV.int IntKind.i64 x, AV.int IntKind.i64 x_1] = AV.agg [AV.int IntKind.i64 a.fst, AV.int IntKind.i64 a.snd.fst] ∧ true = true ∧ add0Pre (((), a, ()), (k1, (),
  ()), ()) ∧ (∀ c d, add0R0 (((), a, ()), (k1, (), ()), ()) c d → True ∧ True ∧ ifp (!leInt u i) (idxOk (1 : Int) s ∧ idxOk i l.length ∧ ∃ (x : Int), nth
  (((natOf i).mul (2 : Nat)).add (0 : Nat)) (List.flatMap En.f l) = some (AV.int IntKind.i64 x) ∧ ∃ (x_2 : Int), nth (((natOf i).mul (2 : Nat)).add (1 : Nat))
  (List.flatMap En.f l) = some (AV.int IntKind.i64 x_2) ∧ ((∃ (a : Near), AV.agg [AV.int IntKind.i64 x, AV.int IntKind.i64 x_2] = AV.agg [AV.int IntKind.i64
  a.fst, AV.int IntKind.i64 a.snd.fst] ∧ False) ∨ ∃ (a : Near), AV.agg [AV.int IntKind.i64 x, AV.int IntKind.i64 x_2] = AV.agg [AV.int IntKind.i64 a.fst, AV.int
  IntKind.i64 a.snd.fst] ∧ true = true ∧ add0Pre (((), a, ()), (k2, (), ()), ()) ∧ (∀ c d_1, add0R0 (((), a, ()), (k2, (), ()), ()) c d_1 → True ∧ True ∧ True ∧
  ((∃ l_1, VW l l_1 ∧ False) ∨ (∃ l_1, VW l l_1 ∧ true = true ∧ N ((l_1, u, k, s, wrapF IntKind.i64 (i.add (1 : Int)), ()), ((), (), (), (), ()), (d.1.1, ((0 :
  Nat), (0 : Nat)), ()), (d_1.1.1, ((0 : Nat), (0 : Nat)), ()), (k3, ((0 : Nat), (0 : Nat)), ()), (k4, (), ()), [], [], [], ())) ∨ (∃ l_1, VW l l_1 ∧ False) ∨ ∃
  l_1, VW l l_1 ∧ False)) ∧ (∀ c d, add0R1 (((), a, ()), (k2, (), ()), ()) c d → True ∧ True ∧ True ∧ ((∃ l_1, VW l l_1 ∧ False) ∨ (∃ l_1, VW l l_1 ∧ False) ∨ (∃
  l_1, VW l l_1 ∧ False) ∨ ∃ l_1, VW l l_1 ∧ False)) ∧ True)) (idxOk (2 : Int) s ∧ idxOk i l.length ∧ ∃ (x : Int), nth (((natOf i).mul (2 : Nat)).add (0 : Nat))
  (List.flatMap En.f l) = some (AV.int IntKind.i64 x) ∧ ∃ (x_2 : Int), nth (((natOf i).mul (2 : Nat)).add (1 : Nat)) (List.flatMap En.f l) = some (AV.int
  IntKind.i64 x_2) ∧ ((∃ (a : Near), AV.agg [AV.int IntKind.i64 x, AV.int IntKind.i64 x_2] = AV.agg [AV.int IntKind.i64 a.fst, AV.int IntKind.i64 a.snd.fst] ∧
  False) ∨ ∃ (a : Near), AV.agg [AV.int IntKind.i64 x, AV.int IntKind.i64 x_2] = AV.agg [AV.int IntKind.i64 a.fst, AV.int IntKind.i64 a.snd.fst] ∧ true = true ∧
  add0Pre (((), a, ()), (k3, (), ()), ()) ∧ (∀ c d_1, add0R0 (((), a, ()), (k3, (), ()), ()) c d_1 → True ∧ True ∧ True ∧ ((∃ l_1, VW l l_1 ∧ False) ∨ (∃ l_1, VW
  l l_1 ∧ true = true ∧ N ((l_1, u, k, s, wrapF IntKind.i64 (i.add (1 : Int)), ()), ((), (), (), (), ()), (d.1.1, ((0 : Nat), (0 : Nat)), ()), (k2, ((0 : Nat),
  (0 : Nat)), ()), (d_1.1.1, ((0 : Nat), (0 : Nat)), ()), (k4, (), ()), [], [], [], ())) ∨ (∃ l_1, VW l l_1 ∧ False) ∨ ∃ l_1, VW l l_1 ∧ False)) ∧ (∀ c d, add0R1
  (((), a, ()), (k3, (), ()), ()) c d → True ∧ True ∧ True ∧ ((∃ l_1, VW l l_1 ∧ False) ∨ (∃ l_1, VW l l_1 ∧ False) ∨ (∃ l_1, VW l l_1 ∧ False) ∨ ∃ l_1, VW l l_1
  ∧ False)) ∧ True))) ∧ (∀ c d, add0R1 (((), a, ()), (k1, (), ()), ()) c d → True ∧ True ∧ ifp (!leInt u i) (idxOk (1 : Int) s ∧ idxOk i l.length ∧ ∃ (x : Int),
  nth (((natOf i).mul (2 : Nat)).add (0 : Nat)) (List.flatMap En.f l) = some (AV.int IntKind.i64 x) ∧ ∃ (x_2 : Int), nth (((natOf i).mul (2 : Nat)).add (1 :
  Nat)) (List.flatMap En.f l) = some (AV.int IntKind.i64 x_2) ∧ ((∃ (a : Near), AV.agg [AV.int IntKind.i64 x, AV.int IntKind.i64 x_2] = AV.agg [AV.int
  IntKind.i64 a.fst, AV.int IntKind.i64 a.snd.fst] ∧ False) ∨ ∃ (a : Near), AV.agg [AV.int IntKind.i64 x, AV.int IntKind.i64 x_2] = AV.agg [AV.int IntKind.i64
  a.fst, AV.int IntKind.i64 a.snd.fst] ∧ true = true ∧ add0Pre (((), a, ()), (k2, (), ()), ()) ∧ (∀ c d, add0R0 (((), a, ()), (k2, (), ()), ()) c d → True ∧ True
  ∧ True ∧ ((∃ l_1, VW l l_1 ∧ False) ∨ (∃ l_1, VW l l_1 ∧ False) ∨ (∃ l_1, VW l l_1 ∧ False) ∨ ∃ l_1, VW l l_1 ∧ False)) ∧ (∀ c d_1, add0R1 (((), a, ()), (k2,
  (), ()), ()) c d_1 → True ∧ True ∧ True ∧ ((∃ l_1, VW l l_1 ∧ False) ∨ (∃ l_1, VW l l_1 ∧ False) ∨ (∃ l_1, VW l l_1 ∧ ∃ l, FE d.2.1 l ∧ ∃ l_2, FE d_1.2.1 l_2 ∧
  true = true ∧ N ((l_1, u, k, s, wrapF IntKind.i64 (i.add (1 : Int)), ()), ((), (), (), (), ()), (d.1.1, (d.1.2.1.fst, d.1.2.1.snd), ()), (d_1.1.1,
  (d_1.1.2.1.fst, d_1.1.2.1.snd), ()), (k3, ((0 : Nat), (0 : Nat)), ()), (k4, (), ()), l, l_2, [], ())) ∨ ∃ l_1, VW l l_1 ∧ False)) ∧ True)) (idxOk (2 : Int) s ∧
  idxOk i l.length ∧ ∃ (x : Int), nth (((natOf i).mul (2 : Nat)).add (0 : Nat)) (List.flatMap En.f l) = some (AV.int IntKind.i64 x) ∧ ∃ (x_2 : Int), nth (((natOf
  i).mul (2 : Nat)).add (1 : Nat)) (List.flatMap En.f l) = some (AV.int IntKind.i64 x_2) ∧ ((∃ (a : Near), AV.agg [AV.int IntKind.i64 x, AV.int IntKind.i64 x_2]
  = AV.agg [AV.int IntKind.i64 a.fst, AV.int IntKind.i64 a.snd.fst] ∧ False) ∨ ∃ (a : Near), AV.agg [AV.int IntKind.i64 x, AV.int IntKind.i64 x_2] = AV.agg
  [AV.int IntKind.i64 a.fst, AV.int IntKind.i64 a.snd.fst] ∧ true = true ∧ add0Pre (((), a, ()), (k3, (), ()), ()) ∧ (∀ c d, add0R0 (((), a, ()), (k3, (), ()),
  ()) c d → True ∧ True ∧ True ∧ ((∃ l_1, VW l l_1 ∧ False) ∨ (∃ l_1, VW l l_1 ∧ False) ∨ (∃ l_1, VW l l_1 ∧ False) ∨ ∃ l_1, VW l l_1 ∧ False)) ∧ (∀ c d_1,
  add0R1 (((), a, ()), (k3, (), ()), ()) c d_1 → True ∧ True ∧ True ∧ ((∃ l_1, VW l l_1 ∧ False) ∨ (∃ l_1, VW l l_1 ∧ False) ∨ (∃ l_1, VW l l_1 ∧ False) ∨ ∃ l_1,
  VW l l_1 ∧ ∃ l, FE d.2.1 l ∧ ∃ l_2, FE d_1.2.1 l_2 ∧ true = true ∧ N ((l_1, u, k, s, wrapF IntKind.i64 (i.add (1 : Int)), ()), ((), (), (), (), ()), (d.1.1,
  (d.1.2.1.fst, d.1.2.1.snd), ()), (k2, ((0 : Nat), (0 : Nat)), ()), (d_1.1.1, (d_1.1.2.1.fst, d_1.1.2.1.snd), ()), (k4, (), ()), l, [], l_2, ()))) ∧ True))) ∧
  True)) ((True ∧ ∃ l_1, VW l l_1 ∧ False) ∨ (True ∧ ∃ l_1, VW l l_1 ∧ true = true ∧ R1 ((l, u, k, s, i, ()), ((), (), (), (), ()), (k1, ((0 : Nat), (0 : Nat)),
  ()), (k2, ((0 : Nat), (0 : Nat)), ()), (k3, ((0 : Nat), (0 : Nat)), ()), (k4, (), ()), [], [], [], ()) (l_1, u, k, s, ()) (((), (), (), (), ()), (k1, (), ()),
  (k2, (), ()), (k3, (), ()), (k4, (), ()), ())) ∨ (True ∧ ∃ l_1, VW l l_1 ∧ False) ∨ True ∧ ∃ l_1, VW l l_1 ∧ False)) := by kernel_rfl

theorem maForm1 (l : List Near) (u : Int) (k : Int) (s : Nat) (i : Int) (k1 : Int) (h1 : Nat × Nat) (k2 : Int) (h2 : Nat × Nat) (k3 : Int) (k4 : Int) (m1 : List Near) (m2 : List Near) (N : maZ → Prop) (R0 : maZ → ((List Near) × Int × Int × Nat × Unit) → ((Unit × Unit × Unit × Unit × Unit) × (Int × (Nat × Nat) × Unit) × (Int × (Nat × Nat) × Unit) × (Int × (Nat × Nat) × Unit) × (Int × Unit × Unit) × (List Near) × (List Near) × (List Near) × Unit) → Prop) (R1 : maZ → ((List Near) × Int × Int × Nat × Unit) → ((Unit × Unit × Unit × Unit × Unit) × (Int × Unit × Unit) × (Int × Unit × Unit) × (Int × Unit × Unit) × (Int × Unit × Unit) × Unit) → Prop) (R2 : maZ → ((List Near) × Int × Int × Nat × Unit) → ((Unit × Unit × Unit × Unit × Unit) × (Int × (Nat × Nat) × Unit) × (Int × (Nat × Nat) × Unit) × (Int × Unit × Unit) × (Int × Unit × Unit) × (List Near) × (List Near) × Unit) → Prop) (R3 : maZ → ((List Near) × Int × Int × Nat × Unit) → ((Unit × Unit × Unit × Unit × Unit) × (Int × (Nat × Nat) × Unit) × (Int × Unit × Unit) × (Int × (Nat × Nat) × Unit) × (Int × Unit × Unit) × (List Near) × (List Near) × Unit) → Prop) : ((runW Try.prog (KLS [(14, addK)] [] 30) 100).code none 4 122 (loopBody Try.prog 4 15) (mkT (maSl1.av id (l, (u, (k, (s, (i, ()))))))) [] (stL false (maBl1.obs id (((), ((), ((), ((), ())))), ((k1, (h1, ())), ((k2, (h2, ())), ((k3, ((), ())), ((k4, ((), ())), (m1, (m2, ()))))))))) (postL 0 maFs (maAlts R0 R1 R2 R3) (maZ1 (l, (u, (k, (s, (i, ()))))) (((), ((), ((), ((), ())))), ((k1, (h1, ())), ((k2, (h2, ())), ((k3, ((), ())), ((k4, ((), ())), (m1, (m2, ())))))))) N)) =
  ( ifp (!leInt (Int.ofNat l.length) i) (idxOk (0 : Int) s ∧ idxOk i l.length ∧ ∃ (x : Int), nth (((natOf i).mul (2 : Nat)).add (0 : Nat)) (List.flatMap En.f l) =
  some (AV.int IntKind.i64 x) ∧ ∃ (x_1 : Int), nth (((natOf i).mul (2 : Nat)).add (1 : Nat)) (List.flatMap En.f l) = some (AV.int IntKind.i64 x_1) ∧ ((∃ (a :
  Near), AV.agg [AV.int IntKind.i64 x, AV.int IntKind.i64 x_1] = AV.agg [AV.int IntKind.i64 a.fst, AV.int IntKind.i64 a.snd.fst] ∧ ∃ l_1, FE m1 l_1 ∧ true = true
  ∧ add1Pre (((), a, ()), (k1, (h1.fst, h1.snd), ()), l_1, ()) ∧ (∀ c d, add1R0 (((), a, ()), (k1, (h1.fst, h1.snd), ()), l_1, ()) c d → True ∧ True ∧ ifp
  (!leInt u i) (idxOk (1 : Int) s ∧ idxOk i l.length ∧ ∃ (x : Int), nth (((natOf i).mul (2 : Nat)).add (0 : Nat)) (List.flatMap En.f l) = some (AV.int
  IntKind.i64 x) ∧ ∃ (x_2 : Int), nth (((natOf i).mul (2 : Nat)).add (1 : Nat)) (List.flatMap En.f l) = some (AV.int IntKind.i64 x_2) ∧ ((∃ (a : Near), AV.agg
  [AV.int IntKind.i64 x, AV.int IntKind.i64 x_2] = AV.agg [AV.int IntKind.i64 a.fst, AV.int IntKind.i64 a.snd.fst] ∧ ∃ l_2, FE m2 l_2 ∧ true = true ∧ add1Pre
  (((), a, ()), (k2, (h2.fst, h2.snd), ()), l_2, ()) ∧ (∀ c d_1, add1R0 (((), a, ()), (k2, (h2.fst, h2.snd), ()), l_2, ()) c d_1 → True ∧ True ∧ True ∧ ((∃ l_3,
  VW l l_3 ∧ False) ∨ (∃ l_3, VW l l_3 ∧ False) ∨ (∃ l_3, VW l l_3 ∧ ∃ l, FE d.2.1 l ∧ ∃ l_4, FE d_1.2.1 l_4 ∧ true = true ∧ N ((l_3, u, k, s, wrapF IntKind.i64
  (i.add (1 : Int)), ()), ((), (), (), (), ()), (d.1.1, (d.1.2.1.fst, d.1.2.1.snd), ()), (d_1.1.1, (d_1.1.2.1.fst, d_1.1.2.1.snd), ()), (k3, ((0 : Nat), (0 :
  Nat)), ()), (k4, (), ()), l, l_4, [], ())) ∨ ∃ l_3, VW l l_3 ∧ False)) ∧ True) ∨ ∃ (a : Near), AV.agg [AV.int IntKind.i64 x, AV.int IntKind.i64 x_2] = AV.agg
  [AV.int IntKind.i64 a.fst, AV.int IntKind.i64 a.snd.fst] ∧ False)) (idxOk (2 : Int) s ∧ idxOk i l.length ∧ ∃ (x : Int), nth (((natOf i).mul (2 : Nat)).add (0 :
  Nat)) (List.flatMap En.f l) = some (AV.int IntKind.i64 x) ∧ ∃ (x_2 : Int), nth (((natOf i).mul (2 : Nat)).add (1 : Nat)) (List.flatMap En.f l) = some (AV.int
  IntKind.i64 x_2) ∧ ((∃ (a : Near), AV.agg [AV.int IntKind.i64 x, AV.int IntKind.i64 x_2] = AV.agg [AV.int IntKind.i64 a.fst, AV.int IntKind.i64 a.snd.fst] ∧
  False) ∨ ∃ (a : Near), AV.agg [AV.int IntKind.i64 x, AV.int IntKind.i64 x_2] = AV.agg [AV.int IntKind.i64 a.fst, AV.int IntKind.i64 a.snd.fst] ∧ true = true ∧
  add0Pre (((), a, ()), (k3, (), ()), ()) ∧ (∀ c d_1, add0R0 (((), a, ()), (k3, (), ()), ()) c d_1 → True ∧ True ∧ True ∧ ((∃ l_2, VW l l_2 ∧ False) ∨ (∃ l_2, VW
  l l_2 ∧ False) ∨ (∃ l_2, VW l l_2 ∧ ∃ l, FE d.2.1 l ∧ ∃ l_3, FE m2 l_3 ∧ true = true ∧ N ((l_2, u, k, s, wrapF IntKind.i64 (i.add (1 : Int)), ()), ((), (), (),
  (), ()), (d.1.1, (d.1.2.1.fst, d.1.2.1.snd), ()), (k2, (h2.fst, h2.snd), ()), (d_1.1.1, ((0 : Nat), (0 : Nat)), ()), (k4, (), ()), l, l_3, [], ())) ∨ ∃ l_2, VW
  l l_2 ∧ False)) ∧ (∀ c d_1, add0R1 (((), a, ()), (k3, (), ()), ()) c d_1 → True ∧ True ∧ True ∧ ((∃ l_2, VW l l_2 ∧ ∃ l, FE d.2.1 l ∧ ∃ l_3, FE m2 l_3 ∧ ∃ l_4,
  FE d_1.2.1 l_4 ∧ true = true ∧ N ((l_2, u, k, s, wrapF IntKind.i64 (i.add (1 : Int)), ()), ((), (), (), (), ()), (d.1.1, (d.1.2.1.fst, d.1.2.1.snd), ()), (k2,
  (h2.fst, h2.snd), ()), (d_1.1.1, (d_1.1.2.1.fst, d_1.1.2.1.snd), ()), (k4, (), ()), l, l_3, l_4, ())) ∨ (∃ l_2, VW l l_2 ∧ False) ∨ (∃ l_2, VW l l_2 ∧ False) ∨
  ∃ l_2, VW l l_2 ∧ False)) ∧ True))) ∧ True) ∨ ∃ (a : Near), AV.agg [AV.int IntKind.i64 x, AV.int IntKind.i64 x_1] = AV.agg [AV.int IntKind.i64 a.fst, AV.int
  IntKind.i64 a.snd.fst] ∧ False)) ((True ∧ ∃ l_1, VW l l_1 ∧ False) ∨ (True ∧ ∃ l_1, VW l l_1 ∧ False) ∨ (True ∧ ∃ l_1, VW l l_1 ∧ ∃ l_2, FE m1 l_2 ∧ ∃ l_3, FE
  m2 l_3 ∧ true = true ∧ R2 ((l, u, k, s, i, ()), ((), (), (), (), ()), (k1, h1, ()), (k2, h2, ()), (k3, ((0 : Nat), (0 : Nat)), ()), (k4, (), ()), m1, m2, [],
  ()) (l_1, u, k, s, ()) (((), (), (), (), ()), (k1, (h1.fst, h1.snd), ()), (k2, (h2.fst, h2.snd), ()), (k3, (), ()), (k4, (), ()), l_2, l_3, ())) ∨ True ∧ ∃
  l_1, VW l l_1 ∧ False)) := by kernel_rfl

theorem maForm2 (l : List Near) (u : Int) (k : Int) (s : Nat) (i : Int) (k1 : Int) (h1 : Nat × Nat) (k2 : Int) (k3 : Int) (h3 : Nat × Nat) (k4 : Int) (m1 : List Near) (m3 : List Near) (N : maZ → Prop) (R0 : maZ → ((List Near) × Int × Int × Nat × Unit) → ((Unit × Unit × Unit × Unit × Unit) × (Int × (Nat × Nat) × Unit) × (Int × (Nat × Nat) × Unit) × (Int × (Nat × Nat) × Unit) × (Int × Unit × Unit) × (List Near) × (List Near) × (List Near) × Unit) → Prop) (R1 : maZ → ((List Near) × Int × Int × Nat × Unit) → ((Unit × Unit × Unit × Unit × Unit) × (Int × Unit × Unit) × (Int × Unit × Unit) × (Int × Unit × Unit) × (Int × Unit × Unit) × Unit) → Prop) (R2 : maZ → ((List Near) × Int × Int × Nat × Unit) → ((Unit × Unit × Unit × Unit × Unit) × (Int × (Nat × Nat) × Unit) × (Int × (Nat × Nat) × Unit) × (Int × Unit × Unit) × (Int × Unit × Unit) × (List Near) × (List Near) × Unit) → Prop) (R3 : maZ → ((List Near) × Int × Int × Nat × Unit) → ((Unit × Unit × Unit × Unit × Unit) × (Int × (Nat × Nat) × Unit) × (Int × Unit × Unit) × (Int × (Nat × Nat) × Unit) × (Int × Unit × Unit) × (List Near) × (List Near) × Unit) → Prop) : ((runW Try.prog (KLS [(14, addK)] [] 30) 100).code none 4 122 (loopBody Try.prog 4 15) (mkT (maSl2.av id (l, (u, (k, (s, (i, ()))))))) [] (stL false (maBl2.obs id (((), ((), ((), ((), ())))), ((k1, (h1, ())), ((k2, ((), ())), ((k3, (h3, ())), ((k4, ((), ())), (m1, (m3, ()))))))))) (postL 0 maFs (maAlts R0 R1 R2 R3) (maZ2 (l, (u, (k, (s, (i, ()))))) (((), ((), ((), ((), ())))), ((k1, (h1, ())), ((k2, ((), ())), ((k3, (h3, ())), ((k4, ((), ())), (m1, (m3, ())))))))) N)) =
  ( ifp (!leInt (Int.ofNat l.length) i) (idxOk (0 : Int) s ∧ idxOk i l.length ∧ ∃ (x : Int), nth (((natOf i).mul (2 : Nat)).add (0 : Nat)) (List.flatMap En.f l) =
  some (AV.int IntKind.i64 x) ∧ ∃ (x_1 : Int), nth (((natOf i).mul (2 : Nat)).add (1 : Nat)) (List.flatMap En.f l) = some (AV.int IntKind.i64 x_1) ∧ ((∃ (a :
  Near), AV.agg [AV.int IntKind.i64 x, AV.int IntKind.i64 x_1] = AV.agg [AV.int IntKind.i64 a.fst, AV.int IntKind.i64 a.snd.fst] ∧ ∃ l_1, FE m1 l_1 ∧ true = true
  ∧ add1Pre (((), a, ()), (k1, (h1.fst, h1.snd), ()), l_1, ()) ∧ (∀ c d, add1R0 (((), a, ()), (k1, (h1.fst, h1.snd), ()), l_1, ()) c d → True ∧ True ∧ ifp
  (!leInt u i) (idxOk (1 : Int) s ∧ idxOk i l.length ∧ ∃ (x : Int), nth (((natOf i).mul (2 : Nat)).add (0 : Nat)) (List.flatMap En.f l) = some (AV.int
  IntKind.i64 x) ∧ ∃ (x_2 : Int), nth (((natOf i).mul (2 : Nat)).add (1 : Nat)) (List.flatMap En.f l) = some (AV.int IntKind.i64 x_2) ∧ ((∃ (a : Near), AV.agg
  [AV.int IntKind.i64 x, AV.int IntKind.i64 x_2] = AV.agg [AV.int IntKind.i64 a.fst, AV.int IntKind.i64 a.snd.fst] ∧ False) ∨ ∃ (a : Near), AV.agg [AV.int
  IntKind.i64 x, AV.int IntKind.i64 x_2] = AV.agg [AV.int IntKind.i64 a.fst, AV.int IntKind.i64 a.snd.fst] ∧ true = true ∧ add0Pre (((), a, ()), (k2, (), ()),
  ()) ∧ (∀ c d_1, add0R0 (((), a, ()), (k2, (), ()), ()) c d_1 → True ∧ True ∧ True ∧ ((∃ l_2, VW l l_2 ∧ False) ∨ (∃ l_2, VW l l_2 ∧ False) ∨ (∃ l_2, VW l l_2 ∧
  False) ∨ ∃ l_2, VW l l_2 ∧ ∃ l, FE d.2.1 l ∧ ∃ l_3, FE m3 l_3 ∧ true = true ∧ N ((l_2, u, k, s, wrapF IntKind.i64 (i.add (1 : Int)), ()), ((), (), (), (), ()),
  (d.1.1, (d.1.2.1.fst, d.1.2.1.snd), ()), (d_1.1.1, ((0 : Nat), (0 : Nat)), ()), (k3, (h3.fst, h3.snd), ()), (k4, (), ()), l, [], l_3, ()))) ∧ (∀ c d_1, add0R1
  (((), a, ()), (k2, (), ()), ()) c d_1 → True ∧ True ∧ True ∧ ((∃ l_2, VW l l_2 ∧ ∃ l, FE d.2.1 l ∧ ∃ l_3, FE d_1.2.1 l_3 ∧ ∃ l_4, FE m3 l_4 ∧ true = true ∧ N
  ((l_2, u, k, s, wrapF IntKind.i64 (i.add (1 : Int)), ()), ((), (), (), (), ()), (d.1.1, (d.1.2.1.fst, d.1.2.1.snd), ()), (d_1.1.1, (d_1.1.2.1.fst,
  d_1.1.2.1.snd), ()), (k3, (h3.fst, h3.snd), ()), (k4, (), ()), l, l_3, l_4, ())) ∨ (∃ l_2, VW l l_2 ∧ False) ∨ (∃ l_2, VW l l_2 ∧ False) ∨ ∃ l_2, VW l l_2 ∧
  False)) ∧ True)) (idxOk (2 : Int) s ∧ idxOk i l.length ∧ ∃ (x : Int), nth (((natOf i).mul (2 : Nat)).add (0 : Nat)) (List.flatMap En.f l) = some (AV.int
  IntKind.i64 x) ∧ ∃ (x_2 : Int), nth (((natOf i).mul (2 : Nat)).add (1 : Nat)) (List.flatMap En.f l) = some (AV.int IntKind.i64 x_2) ∧ ((∃ (a : Near), AV.agg
  [AV.int IntKind.i64 x, AV.int IntKind.i64 x_2] = AV.agg [AV.int IntKind.i64 a.fst, AV.int IntKind.i64 a.snd.fst] ∧ ∃ l_2, FE m3 l_2 ∧ true = true ∧ add1Pre
  (((), a, ()), (k3, (h3.fst, h3.snd), ()), l_2, ()) ∧ (∀ c d_1, add1R0 (((), a, ()), (k3, (h3.fst, h3.snd), ()), l_2, ()) c d_1 → True ∧ True ∧ True ∧ ((∃ l_3,
  VW l l_3 ∧ False) ∨ (∃ l_3, VW l l_3 ∧ False) ∨ (∃ l_3, VW l l_3 ∧ False) ∨ ∃ l_3, VW l l_3 ∧ ∃ l, FE d.2.1 l ∧ ∃ l_4, FE d_1.2.1 l_4 ∧ true = true ∧ N ((l_3,
  u, k, s, wrapF IntKind.i64 (i.add (1 : Int)), ()), ((), (), (), (), ()), (d.1.1, (d.1.2.1.fst, d.1.2.1.snd), ()), (k2, ((0 : Nat), (0 : Nat)), ()), (d_1.1.1,
  (d_1.1.2.1.fst, d_1.1.2.1.snd), ()), (k4, (), ()), l, [], l_4, ()))) ∧ True) ∨ ∃ (a : Near), AV.agg [AV.int IntKind.i64 x, AV.int IntKind.i64 x_2] = AV.agg
  [AV.int IntKind.i64 a.fst, AV.int IntKind.i64 a.snd.fst] ∧ False))) ∧ True) ∨ ∃ (a : Near), AV.agg [AV.int IntKind.i64 x, AV.int IntKind.i64 x_1] = AV.agg
  [AV.int IntKind.i64 a.fst, AV.int IntKind.i64 a.snd.fst] ∧ False)) ((True ∧ ∃ l_1, VW l l_1 ∧ False) ∨ (True ∧ ∃ l_1, VW l l_1 ∧ False) ∨ (True ∧ ∃ l_1, VW l
  l_1 ∧ False) ∨ True ∧ ∃ l_1, VW l l_1 ∧ ∃ l_2, FE m1 l_2 ∧ ∃ l_3, FE m3 l_3 ∧ true = true ∧ R3 ((l, u, k, s, i, ()), ((), (), (), (), ()), (k1, h1, ()), (k2,
  ((0 : Nat), (0 : Nat)), ()), (k3, h3, ()), (k4, (), ()), m1, [], m3, ()) (l_1, u, k, s, ()) (((), (), (), (), ()), (k1, (h1.fst, h1.snd), ()), (k2, (), ()),
  (k3, (h3.fst, h3.snd), ()), (k4, (), ()), l_2, l_3, ()))) := by kernel_rfl

def maInv : maZ → Prop := fun ((l, (u, (k, (s, (i, ()))))), (((), ((), ((), ((), ())))), ((k1, (h1, ())), ((k2, (h2, ())), ((k3, (h3, ())), ((k4, ((), ())), (m1, (m2, (m3, ()))))))))) => ∃ q : Nat, i = q ∧ q ≤ l.length ∧ l.length ≤ 150 ∧ s = 4 ∧ 0 ≤ u ∧ 0 ≤ k ∧ k ≤ 150 ∧ k1 = k ∧ k2 = k ∧ k3 = k ∧ k4 = k ∧ h1 = (m1.length, m1.length) ∧ h2 = (m2.length, m2.length) ∧ h3 = (m3.length, m3.length) ∧ MaR k (l.take q) u.toNat m1 m2 m3
def maMu : maZ → Nat := fun ((l, (u, (k, (s, (i, ()))))), (((), ((), ((), ((), ())))), ((k1, (h1, ())), ((k2, (h2, ())), ((k3, (h3, ())), ((k4, ((), ())), (m1, (m2, (m3, ()))))))))) => l.length - i.toNat
def maR0 : maZ → ((List Near) × Int × Int × Nat × Unit) → ((Unit × Unit × Unit × Unit × Unit) × (Int × (Nat × Nat) × Unit) × (Int × (Nat × Nat) × Unit) × (Int × (Nat × Nat) × Unit) × (Int × Unit × Unit) × (List Near) × (List Near) × (List Near) × Unit) → Prop := fun ((l, (u, (k, (s, (i, ()))))), (((), ((), ((), ((), ())))), ((k1, (h1, ())), ((k2, (h2, ())), ((k3, (h3, ())), ((k4, ((), ())), (m1, (m2, (m3, ()))))))))) (l2, u2, y, s2, _) (_, (x1, g1, _), (x2, g2, _), (x3, g3, _), (x4, _), n1, n2, n3, _) => l2 = l ∧ u2 = u ∧ y = k ∧ s2 = 4 ∧ x1 = k ∧ x2 = k ∧ x3 = k ∧ x4 = k ∧ l.length ≤ 150 ∧ 0 ≤ u ∧ 0 ≤ k ∧ k ≤ 150 ∧ g1 = (n1.length, n1.length) ∧ g2 = (n2.length, n2.length) ∧ g3 = (n3.length, n3.length) ∧ MaR k l u.toNat n1 n2 n3
def maR1 : maZ → ((List Near) × Int × Int × Nat × Unit) → ((Unit × Unit × Unit × Unit × Unit) × (Int × Unit × Unit) × (Int × Unit × Unit) × (Int × Unit × Unit) × (Int × Unit × Unit) × Unit) → Prop := fun ((l, (u, (k, (s, (i, ()))))), (((), ((), ((), ((), ())))), ((k1, (h1, ())), ((k2, (h2, ())), ((k3, (h3, ())), ((k4, ((), ())), (m1, (m2, (m3, ()))))))))) (l2, u2, y, s2, _) (_, (x1, _), (x2, _), (x3, _), (x4, _), _) => l2 = l ∧ u2 = u ∧ y = k ∧ s2 = 4 ∧ x1 = k ∧ x2 = k ∧ x3 = k ∧ x4 = k ∧ l.length ≤ 150 ∧ 0 ≤ u ∧ 0 ≤ k ∧ k ≤ 150 ∧ MaR k l u.toNat [] [] []
def maR2 : maZ → ((List Near) × Int × Int × Nat × Unit) → ((Unit × Unit × Unit × Unit × Unit) × (Int × (Nat × Nat) × Unit) × (Int × (Nat × Nat) × Unit) × (Int × Unit × Unit) × (Int × Unit × Unit) × (List Near) × (List Near) × Unit) → Prop := fun ((l, (u, (k, (s, (i, ()))))), (((), ((), ((), ((), ())))), ((k1, (h1, ())), ((k2, (h2, ())), ((k3, (h3, ())), ((k4, ((), ())), (m1, (m2, (m3, ()))))))))) (l2, u2, y, s2, _) (_, (x1, g1, _), (x2, g2, _), (x3, _), (x4, _), n1, n2, _) => l2 = l ∧ u2 = u ∧ y = k ∧ s2 = 4 ∧ x1 = k ∧ x2 = k ∧ x3 = k ∧ x4 = k ∧ l.length ≤ 150 ∧ 0 ≤ u ∧ 0 ≤ k ∧ k ≤ 150 ∧ g1 = (n1.length, n1.length) ∧ g2 = (n2.length, n2.length) ∧ MaR k l u.toNat n1 n2 []
def maR3 : maZ → ((List Near) × Int × Int × Nat × Unit) → ((Unit × Unit × Unit × Unit × Unit) × (Int × (Nat × Nat) × Unit) × (Int × Unit × Unit) × (Int × (Nat × Nat) × Unit) × (Int × Unit × Unit) × (List Near) × (List Near) × Unit) → Prop := fun ((l, (u, (k, (s, (i, ()))))), (((), ((), ((), ((), ())))), ((k1, (h1, ())), ((k2, (h2, ())), ((k3, (h3, ())), ((k4, ((), ())), (m1, (m2, (m3, ()))))))))) (l2, u2, y, s2, _) (_, (x1, g1, _), (x2, _), (x3, g3, _), (x4, _), n1, n3, _) => l2 = l ∧ u2 = u ∧ y = k ∧ s2 = 4 ∧ x1 = k ∧ x2 = k ∧ x3 = k ∧ x4 = k ∧ l.length ≤ 150 ∧ 0 ≤ u ∧ 0 ≤ k ∧ k ≤ 150 ∧ g1 = (n1.length, n1.length) ∧ g3 = (n3.length, n3.length) ∧ MaR k l u.toNat n1 [] n3
noncomputable def maC : LoopC := loopC 0 maFs (maAlts maR0 maR1 maR2 maR3) maInv

theorem maStep : stepsOk Try.prog (KLS [(14, addK)] [] 30) 100 4 122 (loopBody Try.prog 4 15) 0 false maFs (maAlts maR0 maR1 maR2 maR3) maInv maMu ⟨_, _, maSl, maBl, fun x y => (x, y)⟩ := by
  intro x y hz
  obtain ⟨l, u, k, s, i, _⟩ := x
  obtain ⟨⟨_, _, _, _, _⟩, ⟨k1, h1, _⟩, ⟨k2, h2, _⟩, ⟨k3, h3, _⟩, ⟨k4, _, _⟩, m1, m2, m3, _⟩ := y
  refine (maForm l u k s i k1 h1 k2 h2 k3 h3 k4 m1 m2 m3 _ _ _ _ _).mpr ?_
  obtain ⟨q, rfl, hq, hl, hs, u0, k0, kle, q1, q2, q3, q4, g1, g2, g3, hM⟩ := hz
  obtain rfl : s = 4 := hs
  obtain rfl : k = k1 := q1.symm
  obtain rfl : k = k2 := q2.symm
  obtain rfl : k = k3 := q3.symm
  obtain rfl : k = k4 := q4.symm
  obtain rfl : h1 = (m1.length, m1.length) := g1
  obtain rfl : h2 = (m2.length, m2.length) := g2
  obtain rfl : h3 = (m3.length, m3.length) := g3
  have hT1 := hM.1
  have hT2 := hM.2.1
  have hT3 := hM.2.2
  have hl1 := hT1.le
  have hl2 := hT2.le
  have hl3 := hT3.le
  simp only [List.length_take, List.length_drop] at hl1 hl2 hl3
  replace hl1 : m1.length ≤ 999999 := by omega
  replace hl2 : m2.length ≤ 999999 := by omega
  replace hl3 : m3.length ≤ 999999 := by omega
  rw [ifp_lt]
  split
  · rename_i h
    have hql : q < l.length := by simpa using h
    simp only [natOf_nat]
    refine ⟨⟨by decide, by decide⟩, idx_ok hql, _, nth_near0 hql, _, nth_near1 hql, Or.inl ⟨l[q], rfl, m1, rfl, (by first | exact trivial | exact rfl), ⟨rfl, hT1.h, hl1, k0⟩, fun c1 d1 hr1 => ?_, trivial⟩⟩
    obtain ⟨b1, e1, _⟩ := c1
    obtain ⟨⟨x1, g1, _⟩, p1, _⟩ := d1
    obtain ⟨he1, hx1, hg1, ha1⟩ := hr1
    obtain rfl : k = x1 := hx1.symm
    obtain rfl : g1 = (p1.length, p1.length) := hg1
    repeat (refine And.intro True.intro ?_)
    rw [ifp_lt]
    split
    · rename_i hu
      refine ⟨⟨by decide, by decide⟩, idx_ok hql, _, nth_near0 hql, _, nth_near1 hql, Or.inl ⟨l[q], rfl, m2, rfl, (by first | exact trivial | exact rfl), ⟨rfl, hT2.h, hl2, k0⟩, fun c2 d2 hr2 => ?_, trivial⟩⟩
      obtain ⟨b2, e2, _⟩ := c2
      obtain ⟨⟨x2, g2, _⟩, p2, _⟩ := d2
      obtain ⟨he2, hx2, hg2, ha2⟩ := hr2
      obtain rfl : k = x2 := hx2.symm
      obtain rfl : g2 = (p2.length, p2.length) := hg2
      repeat (refine And.intro True.intro ?_)
      repeat (refine And.intro True.intro ?_)
      exact Or.inl (⟨l, Wk.refl _, p1, rfl, p2, rfl, m3, rfl, (by first | exact trivial | exact rfl), ⟨q + 1, by rw [wsucc (by omega)], hql, hl, rfl, u0, k0, kle, rfl, rfl, rfl, rfl, rfl, rfl, rfl, ma_lt hql (by omega) k0 hM ha1 ha2⟩, by rw [wsucc (by omega)]; show l.length - (q + 1) < l.length - q; omega, fun _ _ h => h, fun _ _ h => h, fun _ _ h => h, fun _ _ h => h, trivial⟩)
    · rename_i hu
      refine ⟨⟨by decide, by decide⟩, idx_ok hql, _, nth_near0 hql, _, nth_near1 hql, Or.inl ⟨l[q], rfl, m3, rfl, (by first | exact trivial | exact rfl), ⟨rfl, hT3.h, hl3, k0⟩, fun c3 d3 hr3 => ?_, trivial⟩⟩
      obtain ⟨b3, e3, _⟩ := c3
      obtain ⟨⟨x3, g3, _⟩, p3, _⟩ := d3
      obtain ⟨he3, hx3, hg3, ha3⟩ := hr3
      obtain rfl : k = x3 := hx3.symm
      obtain rfl : g3 = (p3.length, p3.length) := hg3
      repeat (refine And.intro True.intro ?_)
      repeat (refine And.intro True.intro ?_)
      exact Or.inl (⟨l, Wk.refl _, p1, rfl, m2, rfl, p3, rfl, (by first | exact trivial | exact rfl), ⟨q + 1, by rw [wsucc (by omega)], hql, hl, rfl, u0, k0, kle, rfl, rfl, rfl, rfl, rfl, rfl, rfl, ma_ge hql (by omega) k0 hM ha1 ha3⟩, by rw [wsucc (by omega)]; show l.length - (q + 1) < l.length - q; omega, fun _ _ h => h, fun _ _ h => h, fun _ _ h => h, fun _ _ h => h, trivial⟩)
  · rename_i h
    have hql : ¬ q < l.length := by simpa using h
    rw [take_all hql] at hM
    exact Or.inl (⟨trivial, l, Wk.refl _, m1, rfl, m2, rfl, m3, rfl, (by first | exact trivial | exact rfl), rfl, rfl, rfl, rfl, rfl, rfl, rfl, rfl, hl, u0, k0, kle, rfl, rfl, rfl, hM⟩)
theorem maStep0 : stepsOk Try.prog (KLS [(14, addK)] [] 30) 100 4 122 (loopBody Try.prog 4 15) 0 false maFs (maAlts maR0 maR1 maR2 maR3) maInv maMu ⟨_, _, maSl0, maBl0, maZ0⟩ := by
  intro x y hz
  obtain ⟨l, u, k, s, i, _⟩ := x
  obtain ⟨⟨_, _, _, _, _⟩, ⟨k1, _, _⟩, ⟨k2, _, _⟩, ⟨k3, _, _⟩, ⟨k4, _, _⟩, _⟩ := y
  refine (maForm0 l u k s i k1 k2 k3 k4 _ _ _ _ _).mpr ?_
  obtain ⟨q, rfl, hq, hl, hs, u0, k0, kle, q1, q2, q3, q4, g1, g2, g3, hM⟩ := hz
  obtain rfl : s = 4 := hs
  obtain rfl : k = k1 := q1.symm
  obtain rfl : k = k2 := q2.symm
  obtain rfl : k = k3 := q3.symm
  obtain rfl : k = k4 := q4.symm
  have hT1 := hM.1
  have hT2 := hM.2.1
  have hT3 := hM.2.2
  have hl1 := hT1.le
  have hl2 := hT2.le
  have hl3 := hT3.le
  simp only [List.length_take, List.length_drop] at hl1 hl2 hl3
  rw [ifp_lt]
  split
  · rename_i h
    have hql : q < l.length := by simpa using h
    simp only [natOf_nat]
    refine ⟨⟨by decide, by decide⟩, idx_ok hql, _, nth_near0 hql, _, nth_near1 hql, Or.inr ⟨l[q], rfl, (by first | exact trivial | exact rfl), k0, fun c1 d1 hr1 => ?_, fun c1 d1 hr1 => ?_, trivial⟩⟩
    · obtain ⟨b1, e1, _⟩ := c1
      obtain ⟨⟨x1, _⟩, _⟩ := d1
      obtain ⟨hb1, he1, hx1, hz1⟩ := hr1
      obtain rfl : k = x1 := hx1.symm
      have hz1 : k = 0 := hz1
      have ha1 := add_0 (n := l[q]) hz1
      repeat (refine And.intro True.intro ?_)
      rw [ifp_lt]
      split
      · rename_i hu
        refine ⟨⟨by decide, by decide⟩, idx_ok hql, _, nth_near0 hql, _, nth_near1 hql, Or.inr ⟨l[q], rfl, (by first | exact trivial | exact rfl), k0, fun c2 d2 hr2 => ?_, fun c2 d2 hr2 => ?_, trivial⟩⟩
        · obtain ⟨b2, e2, _⟩ := c2
          obtain ⟨⟨x2, _⟩, _⟩ := d2
          obtain ⟨hb2, he2, hx2, hz2⟩ := hr2
          obtain rfl : k = x2 := hx2.symm
          have hz2 : k = 0 := hz2
          have ha2 := add_0 (n := l[q]) hz2
          repeat (refine And.intro True.intro ?_)
          repeat (refine And.intro True.intro ?_)
          exact Or.inr (Or.inl (⟨l, Wk.refl _, (by first | exact trivial | exact rfl), ⟨q + 1, by rw [wsucc (by omega)], hql, hl, rfl, u0, k0, kle, rfl, rfl, rfl, rfl, rfl, rfl, rfl, ma_lt hql (by omega) k0 hM ha1 ha2⟩, by rw [wsucc (by omega)]; show l.length - (q + 1) < l.length - q; omega, fun _ _ h => h, fun _ _ h => h, fun _ _ h => h, fun _ _ h => h, trivial⟩))
        · obtain ⟨b2, e2, _⟩ := c2
          obtain ⟨⟨x2, g2, _⟩, p2, _⟩ := d2
          obtain ⟨hb2, he2, hx2, hz2, hg2, hp2⟩ := hr2
          obtain rfl : k = x2 := hx2.symm
          obtain rfl : p2 = [l[q]] := hp2
          obtain rfl : g2 = (1, 1) := hg2
          have hz2 : 0 < k := hz2
          have ha2 := add_1 (n := l[q]) hz2
          repeat (refine And.intro True.intro ?_)
          exact absurd hz1 (by omega)
      · rename_i hu
        refine ⟨⟨by decide, by decide⟩, idx_ok hql, _, nth_near0 hql, _, nth_near1 hql, Or.inr ⟨l[q], rfl, (by first | exact trivial | exact rfl), k0, fun c3 d3 hr3 => ?_, fun c3 d3 hr3 => ?_, trivial⟩⟩
        · obtain ⟨b3, e3, _⟩ := c3
          obtain ⟨⟨x3, _⟩, _⟩ := d3
          obtain ⟨hb3, he3, hx3, hz3⟩ := hr3
          obtain rfl : k = x3 := hx3.symm
          have hz3 : k = 0 := hz3
          have ha3 := add_0 (n := l[q]) hz3
          repeat (refine And.intro True.intro ?_)
          repeat (refine And.intro True.intro ?_)
          exact Or.inr (Or.inl (⟨l, Wk.refl _, (by first | exact trivial | exact rfl), ⟨q + 1, by rw [wsucc (by omega)], hql, hl, rfl, u0, k0, kle, rfl, rfl, rfl, rfl, rfl, rfl, rfl, ma_ge hql (by omega) k0 hM ha1 ha3⟩, by rw [wsucc (by omega)]; show l.length - (q + 1) < l.length - q; omega, fun _ _ h => h, fun _ _ h => h, fun _ _ h => h, fun _ _ h => h, trivial⟩))
        · obtain ⟨b3, e3, _⟩ := c3
          obtain ⟨⟨x3, g3, _⟩, p3, _⟩ := d3
          obtain ⟨hb3, he3, hx3, hz3, hg3, hp3⟩ := hr3
          obtain rfl : k = x3 := hx3.symm
          obtain rfl : p3 = [l[q]] := hp3
          obtain rfl : g3 = (1, 1) := hg3
          have hz3 : 0 < k := hz3
          have ha3 := add_1 (n := l[q]) hz3
          repeat (refine And.intro True.intro ?_)
          exact absurd hz1 (by omega)
    · obtain ⟨b1, e1, _⟩ := c1
      obtain ⟨⟨x1, g1, _⟩, p1, _⟩ := d1
      obtain ⟨hb1, he1, hx1, hz1, hg1, hp1⟩ := hr1
      obtain rfl : k = x1 := hx1.symm
      obtain rfl : p1 = [l[q]] := hp1
      obtain rfl : g1 = (1, 1) := hg1
      have hz1 : 0 < k := hz1
      have ha1 := add_1 (n := l[q]) hz1
      repeat (refine And.intro True.intro ?_)
      rw [ifp_lt]
      split
      · rename_i hu
        refine ⟨⟨by decide, by decide⟩, idx_ok hql, _, nth_near0 hql, _, nth_near1 hql, Or.inr ⟨l[q], rfl, (by first | exact trivial | exact rfl), k0, fun c2 d2 hr2 => ?_, fun c2 d2 hr2 => ?_, trivial⟩⟩
        · obtain ⟨b2, e2, _⟩ := c2
          obtain ⟨⟨x2, _⟩, _⟩ := d2
          obtain ⟨hb2, he2, hx2, hz2⟩ := hr2
          obtain rfl : k = x2 := hx2.symm
          have hz2 : k = 0 := hz2
          have ha2 := add_0 (n := l[q]) hz2
          repeat (refine And.intro True.intro ?_)
          exact absurd hz1 (by omega)
        · obtain ⟨b2, e2, _⟩ := c2
          obtain ⟨⟨x2, g2, _⟩, p2, _⟩ := d2
          obtain ⟨hb2, he2, hx2, hz2, hg2, hp2⟩ := hr2
          obtain rfl : k = x2 := hx2.symm
          obtain rfl : p2 = [l[q]] := hp2
          obtain rfl : g2 = (1, 1) := hg2
          have hz2 : 0 < k := hz2
          have ha2 := add_1 (n := l[q]) hz2
          repeat (refine And.intro True.intro ?_)
          repeat (refine And.intro True.intro ?_)
          exact Or.inr (Or.inr (Or.inl (⟨l, Wk.refl _, [l[q]], rfl, [l[q]], rfl, (by first | exact trivial | exact rfl), ⟨q + 1, by rw [wsucc (by omega)], hql, hl, rfl, u0, k0, kle, rfl, rfl, rfl, rfl, rfl, rfl, rfl, ma_lt hql (by omega) k0 hM ha1 ha2⟩, by rw [wsucc (by omega)]; show l.length - (q + 1) < l.length - q; omega, fun _ _ h => h, fun _ _ h => h, fun _ _ h => h, fun _ _ h => h, trivial⟩)))
      · rename_i hu
        refine ⟨⟨by decide, by decide⟩, idx_ok hql, _, nth_near0 hql, _, nth_near1 hql, Or.inr ⟨l[q], rfl, (by first | exact trivial | exact rfl), k0, fun c3 d3 hr3 => ?_, fun c3 d3 hr3 => ?_, trivial⟩⟩
        · obtain ⟨b3, e3, _⟩ := c3
          obtain ⟨⟨x3, _⟩, _⟩ := d3
          obtain ⟨hb3, he3, hx3, hz3⟩ := hr3
          obtain rfl : k = x3 := hx3.symm
          have hz3 : k = 0 := hz3
          have ha3 := add_0 (n := l[q]) hz3
          repeat (refine And.intro True.intro ?_)
          exact absurd hz1 (by omega)
        · obtain ⟨b3, e3, _⟩ := c3
          obtain ⟨⟨x3, g3, _⟩, p3, _⟩ := d3
          obtain ⟨hb3, he3, hx3, hz3, hg3, hp3⟩ := hr3
          obtain rfl : k = x3 := hx3.symm
          obtain rfl : p3 = [l[q]] := hp3
          obtain rfl : g3 = (1, 1) := hg3
          have hz3 : 0 < k := hz3
          have ha3 := add_1 (n := l[q]) hz3
          repeat (refine And.intro True.intro ?_)
          repeat (refine And.intro True.intro ?_)
          exact Or.inr (Or.inr (Or.inr (⟨l, Wk.refl _, [l[q]], rfl, [l[q]], rfl, (by first | exact trivial | exact rfl), ⟨q + 1, by rw [wsucc (by omega)], hql, hl, rfl, u0, k0, kle, rfl, rfl, rfl, rfl, rfl, rfl, rfl, ma_ge hql (by omega) k0 hM ha1 ha3⟩, by rw [wsucc (by omega)]; show l.length - (q + 1) < l.length - q; omega, fun _ _ h => h, fun _ _ h => h, fun _ _ h => h, fun _ _ h => h, trivial⟩)))
  · rename_i h
    have hql : ¬ q < l.length := by simpa using h
    rw [take_all hql] at hM
    exact Or.inr (Or.inl (⟨trivial, l, Wk.refl _, (by first | exact trivial | exact rfl), rfl, rfl, rfl, rfl, rfl, rfl, rfl, rfl, hl, u0, k0, kle, hM⟩))
theorem maStep1 : stepsOk Try.prog (KLS [(14, addK)] [] 30) 100 4 122 (loopBody Try.prog 4 15) 0 false maFs (maAlts maR0 maR1 maR2 maR3) maInv maMu ⟨_, _, maSl1, maBl1, maZ1⟩ := by
  intro x y hz
  obtain ⟨l, u, k, s, i, _⟩ := x
  obtain ⟨⟨_, _, _, _, _⟩, ⟨k1, h1, _⟩, ⟨k2, h2, _⟩, ⟨k3, _, _⟩, ⟨k4, _, _⟩, m1, m2, _⟩ := y
  refine (maForm1 l u k s i k1 h1 k2 h2 k3 k4 m1 m2 _ _ _ _ _).mpr ?_
  obtain ⟨q, rfl, hq, hl, hs, u0, k0, kle, q1, q2, q3, q4, g1, g2, g3, hM⟩ := hz
  obtain rfl : s = 4 := hs
  obtain rfl : k = k1 := q1.symm
  obtain rfl : k = k2 := q2.symm
  obtain rfl : k = k3 := q3.symm
  obtain rfl : k = k4 := q4.symm
  obtain rfl : h1 = (m1.length, m1.length) := g1
  obtain rfl : h2 = (m2.length, m2.length) := g2
  have hT1 := hM.1
  have hT2 := hM.2.1
  have hT3 := hM.2.2
  have hl1 := hT1.le
  have hl2 := hT2.le
  have hl3 := hT3.le
  simp only [List.length_take, List.length_drop] at hl1 hl2 hl3
  replace hl1 : m1.length ≤ 999999 := by omega
  replace hl2 : m2.length ≤ 999999 := by omega
  rw [ifp_lt]
  split
  · rename_i h
    have hql : q < l.length := by simpa using h
    simp only [natOf_nat]
    refine ⟨⟨by decide, by decide⟩, idx_ok hql, _, nth_near0 hql, _, nth_near1 hql, Or.inl ⟨l[q], rfl, m1, rfl, (by first | exact trivial | exact rfl), ⟨rfl, hT1.h, hl1, k0⟩, fun c1 d1 hr1 => ?_, trivial⟩⟩
    obtain ⟨b1, e1, _⟩ := c1
    obtain ⟨⟨x1, g1, _⟩, p1, _⟩ := d1
    obtain ⟨he1, hx1, hg1, ha1⟩ := hr1
    obtain rfl : k = x1 := hx1.symm
    obtain rfl : g1 = (p1.length, p1.length) := hg1
    repeat (refine And.intro True.intro ?_)
    rw [ifp_lt]
    split
    · rename_i hu
      refine ⟨⟨by decide, by decide⟩, idx_ok hql, _, nth_near0 hql, _, nth_near1 hql, Or.inl ⟨l[q], rfl, m2, rfl, (by first | exact trivial | exact rfl), ⟨rfl, hT2.h, hl2, k0⟩, fun c2 d2 hr2 => ?_, trivial⟩⟩
      obtain ⟨b2, e2, _⟩ := c2
      obtain ⟨⟨x2, g2, _⟩, p2, _⟩ := d2
      obtain ⟨he2, hx2, hg2, ha2⟩ := hr2
      obtain rfl : k = x2 := hx2.symm
      obtain rfl : g2 = (p2.length, p2.length) := hg2
      repeat (refine And.intro True.intro ?_)
      repeat (refine And.intro True.intro ?_)
      exact Or.inr (Or.inr (Or.inl (⟨l, Wk.refl _, p1, rfl, p2, rfl, (by first | exact trivial | exact rfl), ⟨q + 1, by rw [wsucc (by omega)], hql, hl, rfl, u0, k0, kle, rfl, rfl, rfl, rfl, rfl, rfl, rfl, ma_lt hql (by omega) k0 hM ha1 ha2⟩, by rw [wsucc (by omega)]; show l.length - (q + 1) < l.length - q; omega, fun _ _ h => h, fun _ _ h => h, fun _ _ h => h, fun _ _ h => h, trivial⟩)))
    · rename_i hu
      refine ⟨⟨by decide, by decide⟩, idx_ok hql, _, nth_near0 hql, _, nth_near1 hql, Or.inr ⟨l[q], rfl, (by first | exact trivial | exact rfl), k0, fun c3 d3 hr3 => ?_, fun c3 d3 hr3 => ?_, trivial⟩⟩
      · obtain ⟨b3, e3, _⟩ := c3
        obtain ⟨⟨x3, _⟩, _⟩ := d3
        obtain ⟨hb3, he3, hx3, hz3⟩ := hr3
        obtain rfl : k = x3 := hx3.symm
        have hz3 : k = 0 := hz3
        have ha3 := add_0 (n := l[q]) hz3
        repeat (refine And.intro True.intro ?_)
        repeat (refine And.intro True.intro ?_)
        exact Or.inr (Or.inr (Or.inl (⟨l, Wk.refl _, p1, rfl, m2, rfl, (by first | exact trivial | exact rfl), ⟨q + 1, by rw [wsucc (by omega)], hql, hl, rfl, u0, k0, kle, rfl, rfl, rfl, rfl, rfl, rfl, rfl, ma_ge hql (by omega) k0 hM ha1 ha3⟩, by rw [wsucc (by omega)]; show l.length - (q + 1) < l.length - q; omega, fun _ _ h => h, fun _ _ h => h, fun _ _ h => h, fun _ _ h => h, trivial⟩)))
      · obtain ⟨b3, e3, _⟩ := c3
        obtain ⟨⟨x3, g3, _⟩, p3, _⟩ := d3
        obtain ⟨hb3, he3, hx3, hz3, hg3, hp3⟩ := hr3
        obtain rfl : k = x3 := hx3.symm
        obtain rfl : p3 = [l[q]] := hp3
        obtain rfl : g3 = (1, 1) := hg3
        have hz3 : 0 < k := hz3
        have ha3 := add_1 (n := l[q]) hz3
        repeat (refine And.intro True.intro ?_)
        repeat (refine And.intro True.intro ?_)
        exact Or.inl (⟨l, Wk.refl _, p1, rfl, m2, rfl, [l[q]], rfl, (by first | exact trivial | exact rfl), ⟨q + 1, by rw [wsucc (by omega)], hql, hl, rfl, u0, k0, kle, rfl, rfl, rfl, rfl, rfl, rfl, rfl, ma_ge hql (by omega) k0 hM ha1 ha3⟩, by rw [wsucc (by omega)]; show l.length - (q + 1) < l.length - q; omega, fun _ _ h => h, fun _ _ h => h, fun _ _ h => h, fun _ _ h => h, trivial⟩)
  · rename_i h
    have hql : ¬ q < l.length := by simpa using h
    rw [take_all hql] at hM
    exact Or.inr (Or.inr (Or.inl (⟨trivial, l, Wk.refl _, m1, rfl, m2, rfl, (by first | exact trivial | exact rfl), rfl, rfl, rfl, rfl, rfl, rfl, rfl, rfl, hl, u0, k0, kle, rfl, rfl, hM⟩)))
theorem maStep2 : stepsOk Try.prog (KLS [(14, addK)] [] 30) 100 4 122 (loopBody Try.prog 4 15) 0 false maFs (maAlts maR0 maR1 maR2 maR3) maInv maMu ⟨_, _, maSl2, maBl2, maZ2⟩ := by
  intro x y hz
  obtain ⟨l, u, k, s, i, _⟩ := x
  obtain ⟨⟨_, _, _, _, _⟩, ⟨k1, h1, _⟩, ⟨k2, _, _⟩, ⟨k3, h3, _⟩, ⟨k4, _, _⟩, m1, m3, _⟩ := y
  refine (maForm2 l u k s i k1 h1 k2 k3 h3 k4 m1 m3 _ _ _ _ _).mpr ?_
  obtain ⟨q, rfl, hq, hl, hs, u0, k0, kle, q1, q2, q3, q4, g1, g2, g3, hM⟩ := hz
  obtain rfl : s = 4 := hs
  obtain rfl : k = k1 := q1.symm
  obtain rfl : k = k2 := q2.symm
  obtain rfl : k = k3 := q3.symm
  obtain rfl : k = k4 := q4.symm
  obtain rfl : h1 = (m1.length, m1.length) := g1
  obtain rfl : h3 = (m3.length, m3.length) := g3
  have hT1 := hM.1
  have hT2 := hM.2.1
  have hT3 := hM.2.2
  have hl1 := hT1.le
  have hl2 := hT2.le
  have hl3 := hT3.le
  simp only [List.length_take, List.length_drop] at hl1 hl2 hl3
  replace hl1 : m1.length ≤ 999999 := by omega
  replace hl3 : m3.length ≤ 999999 := by omega
  rw [ifp_lt]
  split
  · rename_i h
    have hql : q < l.length := by simpa using h
    simp only [natOf_nat]
    refine ⟨⟨by decide, by decide⟩, idx_ok hql, _, nth_near0 hql, _, nth_near1 hql, Or.inl ⟨l[q], rfl, m1, rfl, (by first | exact trivial | exact rfl), ⟨rfl, hT1.h, hl1, k0⟩, fun c1 d1 hr1 => ?_, trivial⟩⟩
    obtain ⟨b1, e1, _⟩ := c1
    obtain ⟨⟨x1, g1, _⟩, p1, _⟩ := d1
    obtain ⟨he1, hx1, hg1, ha1⟩ := hr1
    obtain rfl : k = x1 := hx1.symm
    obtain rfl : g1 = (p1.length, p1.length) := hg1
    repeat (refine And.intro True.intro ?_)
    rw [ifp_lt]
    split
    · rename_i hu
      refine ⟨⟨by decide, by decide⟩, idx_ok hql, _, nth_near0 hql, _, nth_near1 hql, Or.inr ⟨l[q], rfl, (by first | exact trivial | exact rfl), k0, fun c2 d2 hr2 => ?_, fun c2 d2 hr2 => ?_, trivial⟩⟩
      · obtain ⟨b2, e2, _⟩ := c2
        obtain ⟨⟨x2, _⟩, _⟩ := d2
        obtain ⟨hb2, he2, hx2, hz2⟩ := hr2
        obtain rfl : k = x2 := hx2.symm
        have hz2 : k = 0 := hz2
        have ha2 := add_0 (n := l[q]) hz2
        repeat (refine And.intro True.intro ?_)
        repeat (refine And.intro True.intro ?_)
        exact Or.inr (Or.inr (Or.inr (⟨l, Wk.refl _, p1, rfl, m3, rfl, (by first | exact trivial | exact rfl), ⟨q + 1, by rw [wsucc (by omega)], hql, hl, rfl, u0, k0, kle, rfl, rfl, rfl, rfl, rfl, rfl, rfl, ma_lt hql (by omega) k0 hM ha1 ha2⟩, by rw [wsucc (by omega)]; show l.length - (q + 1) < l.length - q; omega, fun _ _ h => h, fun _ _ h => h, fun _ _ h => h, fun _ _ h => h, trivial⟩)))
      · obtain ⟨b2, e2, _⟩ := c2
        obtain ⟨⟨x2, g2, _⟩, p2, _⟩ := d2
        obtain ⟨hb2, he2, hx2, hz2, hg2, hp2⟩ := hr2
        obtain rfl : k = x2 := hx2.symm
        obtain rfl : p2 = [l[q]] := hp2
        obtain rfl : g2 = (1, 1) := hg2
        have hz2 : 0 < k := hz2
        have ha2 := add_1 (n := l[q]) hz2
        repeat (refine And.intro True.intro ?_)
        repeat (refine And.intro True.intro ?_)
        exact Or.inl (⟨l, Wk.refl _, p1, rfl, [l[q]], rfl, m3, rfl, (by first | exact trivial | exact rfl), ⟨q + 1, by rw [wsucc (by omega)], hql, hl, rfl, u0, k0, kle, rfl, rfl, rfl, rfl, rfl, rfl, rfl, ma_lt hql (by omega) k0 hM ha1 ha2⟩, by rw [wsucc (by omega)]; show l.length - (q + 1) < l.length - q; omega, fun _ _ h => h, fun _ _ h => h, fun _ _ h => h, fun _ _ h => h, trivial⟩)
    · rename_i hu
      refine ⟨⟨by decide, by decide⟩, idx_ok hql, _, nth_near0 hql, _, nth_near1 hql, Or.inl ⟨l[q], rfl, m3, rfl, (by first | exact trivial | exact rfl), ⟨rfl, hT3.h, hl3, k0⟩, fun c3 d3 hr3 => ?_, trivial⟩⟩
      obtain ⟨b3, e3, _⟩ := c3
      obtain ⟨⟨x3, g3, _⟩, p3, _⟩ := d3
      obtain ⟨he3, hx3, hg3, ha3⟩ := hr3
      obtain rfl : k = x3 := hx3.symm
      obtain rfl : g3 = (p3.length, p3.length) := hg3
      repeat (refine And.intro True.intro ?_)
      repeat (refine And.intro True.intro ?_)
      exact Or.inr (Or.inr (Or.inr (⟨l, Wk.refl _, p1, rfl, p3, rfl, (by first | exact trivial | exact rfl), ⟨q + 1, by rw [wsucc (by omega)], hql, hl, rfl, u0, k0, kle, rfl, rfl, rfl, rfl, rfl, rfl, rfl, ma_ge hql (by omega) k0 hM ha1 ha3⟩, by rw [wsucc (by omega)]; show l.length - (q + 1) < l.length - q; omega, fun _ _ h => h, fun _ _ h => h, fun _ _ h => h, fun _ _ h => h, trivial⟩)))
  · rename_i h
    have hql : ¬ q < l.length := by simpa using h
    rw [take_all hql] at hM
    exact Or.inr (Or.inr (Or.inr (⟨trivial, l, Wk.refl _, m1, rfl, m3, rfl, (by first | exact trivial | exact rfl), rfl, rfl, rfl, rfl, rfl, rfl, rfl, rfl, hl, u0, k0, kle, rfl, rfl, hM⟩)))
theorem maOk : LoopOk Try.prog 4 122 (.loop (loopBody Try.prog 4 15)) maC := loop_ok maMu mixed (KLS_ok (cc_cons addCc (cc_nil))) rfl (steps_cons maStep (steps_cons maStep0 (steps_cons maStep1 (steps_cons maStep2 (steps_nil)))))

theorem top_srt (k : Int) (X : List Near) : Go.Det.Stab.sort lessV (topL k X) = topL k X := Go.Det.Stab.sort_id (topL_srt k X)
/-- The first ones of all are the first ones of the first ones of each part. -/
theorem top_app (k : Int) (A C : List Near) : topL k (topL k A ++ topL k C) = topL k (A ++ C) := by
  rw [topL, near_stab, ← Go.Det.Stab.sort_app weakLess, top_srt, top_srt, topL, topL, near_stab, near_stab, Go.Det.Stab.mg_take _ _ _ _ _ (Nat.le_refl _) (Nat.le_refl _), Go.Det.Stab.sort_app weakLess, ← near_stab]
  rfl
theorem top_parts (k : Int) (l : List Near) (u : Nat) : topL k (([] ++ (topL k (l.take u)).reverse) ++ (topL k (l.drop u)).reverse) = topL k l := by
  rw [List.nil_append, topL_perm k ((List.reverse_perm _).append (List.reverse_perm _)), top_app, List.take_append_drop]
theorem mb_step {x : List Near} {q : Nat} (hq : q < x.length) (L0 : List Near) : (L0 ++ [x[q]]) ++ (x.take q).reverse = L0 ++ (x.take (q + 1)).reverse := by
  rw [show x.take (q + 1) = x.take q ++ [x[q]] from (List.take_append_getElem hq).symm, List.reverse_append, List.append_assoc]; rfl
theorem ifp_ge {a b : Int} {x y : Prop} : ifp (leInt a b) x y = if a ≤ b then x else y := by
  by_cases h : a ≤ b
  · rw [ifp_pos (by rw [leInt_eq]; simpa using h), if_pos h]
  · rw [ifp_neg (by rw [leInt_eq]; simpa using h), if_neg h]

/-! The loop mb01 of wayfinder/wayfinderlaw04.RankMerges. -/
abbrev mb01Z := ((List Near) × Int × Nat × Unit × (List Near) × Int × Unit) × ((Unit × Unit × Unit × Unit × Unit) × (Int × (Nat × Nat) × Unit) × (Int × (Nat × Nat) × Unit) × (Int × (Nat × Nat) × Unit) × (Int × (Nat × Nat) × Unit) × (List Near) × (List Near) × (List Near) × (List Near) × Unit)
noncomputable def mb01Sl : Tel ((List Near) × Int × Nat × Unit × (List Near) × Int × Unit) := .cons 0 (.lst En) (.cons 2 (.int .i64) (.cons 7 (.sl 0 1) (.cons 12 (.num .i64 1) (.cons 13 (.lst En) (.cons 14 (.int .i64) (.nil))))))
noncomputable def mb01Bl : BTel ((Unit × Unit × Unit × Unit × Unit) × (Int × (Nat × Nat) × Unit) × (Int × (Nat × Nat) × Unit) × (Int × (Nat × Nat) × Unit) × (Int × (Nat × Nat) × Unit) × (List Near) × (List Near) × (List Near) × (List Near) × Unit) := .cons (.row (.cons 0 (.ptr 1) (.cons 1 (.ptr 2) (.cons 2 (.ptr 3) (.cons 3 (.ptr 4) (.nil)))))) (.cons (.row (.cons 0 (.int .i64) (.cons 1 (.slq 5 2) (.nil)))) (.cons (.row (.cons 0 (.int .i64) (.cons 1 (.slq 6 2) (.nil)))) (.cons (.row (.cons 0 (.int .i64) (.cons 1 (.slq 7 2) (.nil)))) (.cons (.row (.cons 0 (.int .i64) (.cons 1 (.slq 8 2) (.nil)))) (.cons (.rows En 30) (.cons (.rows En 30) (.cons (.rows En 30) (.cons (.rows En 30) (.nil)))))))))
noncomputable def mb01Sl0 : Tel ((List Near) × Int × Nat × Unit × (List Near) × Int × Unit) := .cons 0 (.lst En) (.cons 2 (.int .i64) (.cons 7 (.sl 0 1) (.cons 12 (.num .i64 1) (.cons 13 (.lst En) (.cons 14 (.int .i64) (.nil))))))
noncomputable def mb01Bl0 : BTel ((Unit × Unit × Unit × Unit × Unit) × (Int × (Nat × Nat) × Unit) × (Int × (Nat × Nat) × Unit) × (Int × (Nat × Nat) × Unit) × (Int × Unit × Unit) × (List Near) × (List Near) × (List Near) × Unit) := .cons (.row (.cons 0 (.ptr 1) (.cons 1 (.ptr 2) (.cons 2 (.ptr 3) (.cons 3 (.ptr 4) (.nil)))))) (.cons (.row (.cons 0 (.int .i64) (.cons 1 (.slq 5 2) (.nil)))) (.cons (.row (.cons 0 (.int .i64) (.cons 1 (.slq 6 2) (.nil)))) (.cons (.row (.cons 0 (.int .i64) (.cons 1 (.slq 7 2) (.nil)))) (.cons (.row (.cons 0 (.int .i64) (.cons 1 (.nilS) (.nil)))) (.cons (.rows En 30) (.cons (.rows En 30) (.cons (.rows En 30) (.nil))))))))
noncomputable def mb01Z0 : ((List Near) × Int × Nat × Unit × (List Near) × Int × Unit) → ((Unit × Unit × Unit × Unit × Unit) × (Int × (Nat × Nat) × Unit) × (Int × (Nat × Nat) × Unit) × (Int × (Nat × Nat) × Unit) × (Int × Unit × Unit) × (List Near) × (List Near) × (List Near) × Unit) → mb01Z := fun (l, (k, (s, ((), (x, (j, ())))))) (((), ((), ((), ((), ())))), ((k1, (h1, ())), ((k2, (h2, ())), ((k3, (h3, ())), ((k4, ((), ())), (m1, (m2, (m3, ())))))))) => ((l, (k, (s, ((), (x, (j, ())))))), (((), ((), ((), ((), ())))), ((k1, (h1, ())), ((k2, (h2, ())), ((k3, (h3, ())), ((k4, ((0, 0), ())), (m1, (m2, (m3, ([], ()))))))))))
noncomputable def mb01Fs : List (LForm mb01Z) := [⟨_, _, mb01Sl, mb01Bl, fun x y => (x, y)⟩, ⟨_, _, mb01Sl0, mb01Bl0, mb01Z0⟩]
noncomputable def mb01Alts (R0 : mb01Z → ((List Near) × Int × Nat × Unit × Unit) → ((Unit × Unit × Unit × Unit × Unit) × (Int × (Nat × Nat) × Unit) × (Int × (Nat × Nat) × Unit) × (Int × (Nat × Nat) × Unit) × (Int × (Nat × Nat) × Unit) × (List Near) × (List Near) × (List Near) × (List Near) × Unit) → Prop) (R1 : mb01Z → ((List Near) × Int × Nat × Unit × Unit) → ((Unit × Unit × Unit × Unit × Unit) × (Int × (Nat × Nat) × Unit) × (Int × (Nat × Nat) × Unit) × (Int × (Nat × Nat) × Unit) × (Int × Unit × Unit) × (List Near) × (List Near) × (List Near) × Unit) → Prop) : List (Alt mb01Z) := [⟨.exit 6, (List Near) × Int × Nat × Unit × Unit, (Unit × Unit × Unit × Unit × Unit) × (Int × (Nat × Nat) × Unit) × (Int × (Nat × Nat) × Unit) × (Int × (Nat × Nat) × Unit) × (Int × (Nat × Nat) × Unit) × (List Near) × (List Near) × (List Near) × (List Near) × Unit, .cons 0 (.lst En) (.cons 2 (.int .i64) (.cons 7 (.sl 0 1) (.cons 12 (.num .i64 1) (.nil)))), .cons (.row (.cons 0 (.ptr 1) (.cons 1 (.ptr 2) (.cons 2 (.ptr 3) (.cons 3 (.ptr 4) (.nil)))))) (.cons (.row (.cons 0 (.int .i64) (.cons 1 (.slq 5 2) (.nil)))) (.cons (.row (.cons 0 (.int .i64) (.cons 1 (.slq 6 2) (.nil)))) (.cons (.row (.cons 0 (.int .i64) (.cons 1 (.slq 7 2) (.nil)))) (.cons (.row (.cons 0 (.int .i64) (.cons 1 (.slq 8 2) (.nil)))) (.cons (.rows En 30) (.cons (.rows En 30) (.cons (.rows En 30) (.cons (.rows En 30) (.nil))))))))), R0⟩, ⟨.exit 6, (List Near) × Int × Nat × Unit × Unit, (Unit × Unit × Unit × Unit × Unit) × (Int × (Nat × Nat) × Unit) × (Int × (Nat × Nat) × Unit) × (Int × (Nat × Nat) × Unit) × (Int × Unit × Unit) × (List Near) × (List Near) × (List Near) × Unit, .cons 0 (.lst En) (.cons 2 (.int .i64) (.cons 7 (.sl 0 1) (.cons 12 (.num .i64 1) (.nil)))), .cons (.row (.cons 0 (.ptr 1) (.cons 1 (.ptr 2) (.cons 2 (.ptr 3) (.cons 3 (.ptr 4) (.nil)))))) (.cons (.row (.cons 0 (.int .i64) (.cons 1 (.slq 5 2) (.nil)))) (.cons (.row (.cons 0 (.int .i64) (.cons 1 (.slq 6 2) (.nil)))) (.cons (.row (.cons 0 (.int .i64) (.cons 1 (.slq 7 2) (.nil)))) (.cons (.row (.cons 0 (.int .i64) (.cons 1 (.nilS) (.nil)))) (.cons (.rows En 30) (.cons (.rows En 30) (.cons (.rows En 30) (.nil)))))))), R1⟩]

theorem mb01Form (l : List Near) (k : Int) (s : Nat) (x : List Near) (j : Int) (k1 : Int) (h1 : Nat × Nat) (k2 : Int) (h2 : Nat × Nat) (k3 : Int) (h3 : Nat × Nat) (k4 : Int) (h4 : Nat × Nat) (m1 : List Near) (m2 : List Near) (m3 : List Near) (m4 : List Near) (N : mb01Z → Prop) (R0 : mb01Z → ((List Near) × Int × Nat × Unit × Unit) → ((Unit × Unit × Unit × Unit × Unit) × (Int × (Nat × Nat) × Unit) × (Int × (Nat × Nat) × Unit) × (Int × (Nat × Nat) × Unit) × (Int × (Nat × Nat) × Unit) × (List Near) × (List Near) × (List Near) × (List Near) × Unit) → Prop) (R1 : mb01Z → ((List Near) × Int × Nat × Unit × Unit) → ((Unit × Unit × Unit × Unit × Unit) × (Int × (Nat × Nat) × Unit) × (Int × (Nat × Nat) × Unit) × (Int × (Nat × Nat) × Unit) × (Int × Unit × Unit) × (List Near) × (List Near) × (List Near) × Unit) → Prop) : ((runW Try.prog (KLS [(14, addK)] [] 30) 100).code none 4 122 (loopBody Try.prog 4 26) (mkT (mb01Sl.av id (l, (k, (s, ((), (x, (j, ())))))))) [] (stL false (mb01Bl.obs id (((), ((), ((), ((), ())))), ((k1, (h1, ())), ((k2, (h2, ())), ((k3, (h3, ())), ((k4, (h4, ())), (m1, (m2, (m3, (m4, ()))))))))))) (postL 0 mb01Fs (mb01Alts R0 R1) ((l, (k, (s, ((), (x, (j, ())))))), (((), ((), ((), ((), ())))), ((k1, (h1, ())), ((k2, (h2, ())), ((k3, (h3, ())), ((k4, (h4, ())), (m1, (m2, (m3, (m4, ())))))))))) N)) =
  ( ifp (leInt (0 : Int) j) (idxOk (3 : Int) s ∧ idxOk j x.length ∧ ∃ (x_1 : Int), nth (((natOf j).mul (2 : Nat)).add (0 : Nat)) (List.flatMap En.f x) = some
  (AV.int IntKind.i64 x_1) ∧ ∃ (x_2 : Int), nth (((natOf j).mul (2 : Nat)).add (1 : Nat)) (List.flatMap En.f x) = some (AV.int IntKind.i64 x_2) ∧ ((∃ (a : Near),
  AV.agg [AV.int IntKind.i64 x_1, AV.int IntKind.i64 x_2] = AV.agg [AV.int IntKind.i64 a.fst, AV.int IntKind.i64 a.snd.fst] ∧ ∃ l_1, FE m4 l_1 ∧ true = true ∧
  add1Pre (((), a, ()), (k4, (h4.fst, h4.snd), ()), l_1, ()) ∧ (∀ c d, add1R0 (((), a, ()), (k4, (h4.fst, h4.snd), ()), l_1, ()) c d → True ∧ True ∧ True ∧ ((∃
  l_2, VW l l_2 ∧ ∃ l, VW x l ∧ ∃ l_3, FE m1 l_3 ∧ ∃ l_4, FE m2 l_4 ∧ ∃ l_5, FE m3 l_5 ∧ ∃ l_6, FE d.2.1 l_6 ∧ true = true ∧ N ((l_2, k, s, (), l, wrapF
  IntKind.i64 (j.sub (1 : Int)), ()), ((), (), (), (), ()), (k1, (h1.fst, h1.snd), ()), (k2, (h2.fst, h2.snd), ()), (k3, (h3.fst, h3.snd), ()), (d.1.1,
  (d.1.2.1.fst, d.1.2.1.snd), ()), l_3, l_4, l_5, l_6, ())) ∨ ∃ l_2, VW l l_2 ∧ ∃ l, VW x l ∧ False)) ∧ True) ∨ ∃ (a : Near), AV.agg [AV.int IntKind.i64 x_1,
  AV.int IntKind.i64 x_2] = AV.agg [AV.int IntKind.i64 a.fst, AV.int IntKind.i64 a.snd.fst] ∧ False)) ((True ∧ ∃ l_1, VW l l_1 ∧ ∃ l_2, FE m1 l_2 ∧ ∃ l_3, FE m2
  l_3 ∧ ∃ l_4, FE m3 l_4 ∧ ∃ l_5, FE m4 l_5 ∧ true = true ∧ R0 ((l, k, s, (), x, j, ()), ((), (), (), (), ()), (k1, h1, ()), (k2, h2, ()), (k3, h3, ()), (k4, h4,
  ()), m1, m2, m3, m4, ()) (l_1, k, s, (), ()) (((), (), (), (), ()), (k1, (h1.fst, h1.snd), ()), (k2, (h2.fst, h2.snd), ()), (k3, (h3.fst, h3.snd), ()), (k4,
  (h4.fst, h4.snd), ()), l_2, l_3, l_4, l_5, ())) ∨ True ∧ ∃ l_1, VW l l_1 ∧ False)) := by kernel_rfl

theorem mb01Form0 (l : List Near) (k : Int) (s : Nat) (x : List Near) (j : Int) (k1 : Int) (h1 : Nat × Nat) (k2 : Int) (h2 : Nat × Nat) (k3 : Int) (h3 : Nat × Nat) (k4 : Int) (m1 : List Near) (m2 : List Near) (m3 : List Near) (N : mb01Z → Prop) (R0 : mb01Z → ((List Near) × Int × Nat × Unit × Unit) → ((Unit × Unit × Unit × Unit × Unit) × (Int × (Nat × Nat) × Unit) × (Int × (Nat × Nat) × Unit) × (Int × (Nat × Nat) × Unit) × (Int × (Nat × Nat) × Unit) × (List Near) × (List Near) × (List Near) × (List Near) × Unit) → Prop) (R1 : mb01Z → ((List Near) × Int × Nat × Unit × Unit) → ((Unit × Unit × Unit × Unit × Unit) × (Int × (Nat × Nat) × Unit) × (Int × (Nat × Nat) × Unit) × (Int × (Nat × Nat) × Unit) × (Int × Unit × Unit) × (List Near) × (List Near) × (List Near) × Unit) → Prop) : ((runW Try.prog (KLS [(14, addK)] [] 30) 100).code none 4 122 (loopBody Try.prog 4 26) (mkT (mb01Sl0.av id (l, (k, (s, ((), (x, (j, ())))))))) [] (stL false (mb01Bl0.obs id (((), ((), ((), ((), ())))), ((k1, (h1, ())), ((k2, (h2, ())), ((k3, (h3, ())), ((k4, ((), ())), (m1, (m2, (m3, ())))))))))) (postL 0 mb01Fs (mb01Alts R0 R1) (mb01Z0 (l, (k, (s, ((), (x, (j, ())))))) (((), ((), ((), ((), ())))), ((k1, (h1, ())), ((k2, (h2, ())), ((k3, (h3, ())), ((k4, ((), ())), (m1, (m2, (m3, ()))))))))) N)) =
  ( ifp (leInt (0 : Int) j) (idxOk (3 : Int) s ∧ idxOk j x.length ∧ ∃ (x_1 : Int), nth (((natOf j).mul (2 : Nat)).add (0 : Nat)) (List.flatMap En.f x) = some
  (AV.int IntKind.i64 x_1) ∧ ∃ (x_2 : Int), nth (((natOf j).mul (2 : Nat)).add (1 : Nat)) (List.flatMap En.f x) = some (AV.int IntKind.i64 x_2) ∧ ((∃ (a : Near),
  AV.agg [AV.int IntKind.i64 x_1, AV.int IntKind.i64 x_2] = AV.agg [AV.int IntKind.i64 a.fst, AV.int IntKind.i64 a.snd.fst] ∧ False) ∨ ∃ (a : Near), AV.agg
  [AV.int IntKind.i64 x_1, AV.int IntKind.i64 x_2] = AV.agg [AV.int IntKind.i64 a.fst, AV.int IntKind.i64 a.snd.fst] ∧ true = true ∧ add0Pre (((), a, ()), (k4,
  (), ()), ()) ∧ (∀ c d, add0R0 (((), a, ()), (k4, (), ()), ()) c d → True ∧ True ∧ True ∧ ((∃ l_1, VW l l_1 ∧ ∃ l, VW x l ∧ False) ∨ ∃ l_1, VW l l_1 ∧ ∃ l, VW x
  l ∧ ∃ l_2, FE m1 l_2 ∧ ∃ l_3, FE m2 l_3 ∧ ∃ l_4, FE m3 l_4 ∧ true = true ∧ N ((l_1, k, s, (), l, wrapF IntKind.i64 (j.sub (1 : Int)), ()), ((), (), (), (),
  ()), (k1, (h1.fst, h1.snd), ()), (k2, (h2.fst, h2.snd), ()), (k3, (h3.fst, h3.snd), ()), (d.1.1, ((0 : Nat), (0 : Nat)), ()), l_2, l_3, l_4, [], ()))) ∧ (∀ c
  d, add0R1 (((), a, ()), (k4, (), ()), ()) c d → True ∧ True ∧ True ∧ ((∃ l_1, VW l l_1 ∧ ∃ l, VW x l ∧ ∃ l_2, FE m1 l_2 ∧ ∃ l_3, FE m2 l_3 ∧ ∃ l_4, FE m3 l_4 ∧
  ∃ l_5, FE d.2.1 l_5 ∧ true = true ∧ N ((l_1, k, s, (), l, wrapF IntKind.i64 (j.sub (1 : Int)), ()), ((), (), (), (), ()), (k1, (h1.fst, h1.snd), ()), (k2,
  (h2.fst, h2.snd), ()), (k3, (h3.fst, h3.snd), ()), (d.1.1, (d.1.2.1.fst, d.1.2.1.snd), ()), l_2, l_3, l_4, l_5, ())) ∨ ∃ l_1, VW l l_1 ∧ ∃ l, VW x l ∧ False))
  ∧ True)) ((True ∧ ∃ l_1, VW l l_1 ∧ False) ∨ True ∧ ∃ l_1, VW l l_1 ∧ ∃ l_2, FE m1 l_2 ∧ ∃ l_3, FE m2 l_3 ∧ ∃ l_4, FE m3 l_4 ∧ true = true ∧ R1 ((l, k, s, (),
  x, j, ()), ((), (), (), (), ()), (k1, h1, ()), (k2, h2, ()), (k3, h3, ()), (k4, ((0 : Nat), (0 : Nat)), ()), m1, m2, m3, [], ()) (l_1, k, s, (), ()) (((), (),
  (), (), ()), (k1, (h1.fst, h1.snd), ()), (k2, (h2.fst, h2.snd), ()), (k3, (h3.fst, h3.snd), ()), (k4, (), ()), l_2, l_3, l_4, ()))) := by kernel_rfl

def mb01Inv : mb01Z → Prop := fun ((l, (k, (s, ((), (x, (j, ())))))), (((), ((), ((), ((), ())))), ((k1, (h1, ())), ((k2, (h2, ())), ((k3, (h3, ())), ((k4, (h4, ())), (m1, (m2, (m3, (m4, ())))))))))) => ∃ q : Nat, j = (q : Int) - 1 ∧ q ≤ x.length ∧ x.length ≤ 150 ∧ s = 4 ∧ 0 ≤ k ∧ k ≤ 150 ∧ k1 = k ∧ k2 = k ∧ k3 = k ∧ k4 = k ∧ h1 = (m1.length, m1.length) ∧ h2 = (m2.length, m2.length) ∧ h3 = (m3.length, m3.length) ∧ h4 = (m4.length, m4.length) ∧ ∃ L0, TopOk k m4 (topL k L0)
def mb01Mu : mb01Z → Nat := fun ((l, (k, (s, ((), (x, (j, ())))))), (((), ((), ((), ((), ())))), ((k1, (h1, ())), ((k2, (h2, ())), ((k3, (h3, ())), ((k4, (h4, ())), (m1, (m2, (m3, (m4, ())))))))))) => (j + 1).toNat
def mb01R0 : mb01Z → ((List Near) × Int × Nat × Unit × Unit) → ((Unit × Unit × Unit × Unit × Unit) × (Int × (Nat × Nat) × Unit) × (Int × (Nat × Nat) × Unit) × (Int × (Nat × Nat) × Unit) × (Int × (Nat × Nat) × Unit) × (List Near) × (List Near) × (List Near) × (List Near) × Unit) → Prop := fun ((l, (k, (s, ((), (x, (j, ())))))), (((), ((), ((), ((), ())))), ((k1, (h1, ())), ((k2, (h2, ())), ((k3, (h3, ())), ((k4, (h4, ())), (m1, (m2, (m3, (m4, ())))))))))) (l2, y, s2, _) (_, (x1, g1, _), (x2, g2, _), (x3, g3, _), (x4, g4, _), n1, n2, n3, n4, _) => l2 = l ∧ y = k ∧ s2 = 4 ∧ x1 = k ∧ x2 = k ∧ x3 = k ∧ x4 = k ∧ g1 = (m1.length, m1.length) ∧ n1 = m1 ∧ g2 = (m2.length, m2.length) ∧ n2 = m2 ∧ g3 = (m3.length, m3.length) ∧ n3 = m3 ∧ g4 = (n4.length, n4.length) ∧ ∀ L0, TopOk k m4 (topL k L0) → TopOk k n4 (topL k (L0 ++ (x.take (j + 1).toNat).reverse))
def mb01R1 : mb01Z → ((List Near) × Int × Nat × Unit × Unit) → ((Unit × Unit × Unit × Unit × Unit) × (Int × (Nat × Nat) × Unit) × (Int × (Nat × Nat) × Unit) × (Int × (Nat × Nat) × Unit) × (Int × Unit × Unit) × (List Near) × (List Near) × (List Near) × Unit) → Prop := fun ((l, (k, (s, ((), (x, (j, ())))))), (((), ((), ((), ((), ())))), ((k1, (h1, ())), ((k2, (h2, ())), ((k3, (h3, ())), ((k4, (h4, ())), (m1, (m2, (m3, (m4, ())))))))))) (l2, y, s2, _) (_, (x1, g1, _), (x2, g2, _), (x3, g3, _), (x4, _), n1, n2, n3, _) => l2 = l ∧ y = k ∧ s2 = 4 ∧ x1 = k ∧ x2 = k ∧ x3 = k ∧ x4 = k ∧ g1 = (m1.length, m1.length) ∧ n1 = m1 ∧ g2 = (m2.length, m2.length) ∧ n2 = m2 ∧ g3 = (m3.length, m3.length) ∧ n3 = m3 ∧ ∀ L0, TopOk k m4 (topL k L0) → TopOk k [] (topL k (L0 ++ (x.take (j + 1).toNat).reverse))
noncomputable def mb01C : LoopC := loopC 0 mb01Fs (mb01Alts mb01R0 mb01R1) mb01Inv

theorem mb01Step : stepsOk Try.prog (KLS [(14, addK)] [] 30) 100 4 122 (loopBody Try.prog 4 26) 0 false mb01Fs (mb01Alts mb01R0 mb01R1) mb01Inv mb01Mu ⟨_, _, mb01Sl, mb01Bl, fun x y => (x, y)⟩ := by
  intro x y hz
  obtain ⟨l, k, s, _, x, j, _⟩ := x
  obtain ⟨⟨_, _, _, _, _⟩, ⟨k1, h1, _⟩, ⟨k2, h2, _⟩, ⟨k3, h3, _⟩, ⟨k4, h4, _⟩, m1, m2, m3, m4, _⟩ := y
  refine (mb01Form l k s x j k1 h1 k2 h2 k3 h3 k4 h4 m1 m2 m3 m4 _ _ _).mpr ?_
  obtain ⟨q, hj, hq, hx, hs, k0, kle, q1, q2, q3, q4, g1, g2, g3, g4, L0, hT⟩ := hz
  obtain rfl : s = 4 := hs
  obtain rfl : k = k1 := q1.symm
  obtain rfl : k = k2 := q2.symm
  obtain rfl : k = k3 := q3.symm
  obtain rfl : k = k4 := q4.symm
  obtain rfl : h1 = (m1.length, m1.length) := g1
  obtain rfl : h2 = (m2.length, m2.length) := g2
  obtain rfl : h3 = (m3.length, m3.length) := g3
  obtain rfl : h4 = (m4.length, m4.length) := g4
  obtain rfl : j = (q : Int) - 1 := hj
  rw [ifp_ge]
  split
  · rename_i h
    obtain ⟨r, rfl⟩ : ∃ r : Nat, q = r + 1 := ⟨q - 1, by omega⟩
    have e : (((r + 1 : Nat) : Int) - 1) = (r : Int) := by omega
    have hrl : r < x.length := by omega
    simp only [e, natOf_nat]
    have hl4 := hT.len
    have hl5 := hT.l
    refine ⟨⟨by decide, by decide⟩, idx_ok hrl, _, nth_near0 hrl, _, nth_near1 hrl, Or.inl ⟨x[r], rfl, m4, rfl, (by first | exact trivial | exact rfl), ⟨rfl, hT.h, by omega, k0⟩, fun c d hr => ?_, trivial⟩⟩
    obtain ⟨b, e4, _⟩ := c
    obtain ⟨⟨x4, g4, _⟩, p4, _⟩ := d
    obtain ⟨he4, hx4, hg4, ha4⟩ := hr
    obtain rfl : k = x4 := hx4.symm
    obtain rfl : g4 = (p4.length, p4.length) := hg4
    repeat (refine And.intro True.intro ?_)
    have ew : wrapF .i64 (Int.sub (r : Int) 1) = (r : Int) - 1 := by rw [wsub (by omega) (by omega)]
    simp only [ew]
    refine Or.inl ⟨l, Wk.refl _, x, Wk.refl _, m1, rfl, m2, rfl, m3, rfl, p4, rfl, (by first | exact trivial | exact rfl), ⟨r, rfl, by omega, hx, rfl, k0, kle, rfl, rfl, rfl, rfl, rfl, rfl, rfl, rfl, L0 ++ [x[r]], hT.top k0 ha4 rfl⟩, ?_, ?_⟩
    · show (((r : Int) - 1) + 1).toNat < (((r : Int)) + 1).toNat; omega
    · refine ⟨?_, ?_, trivial⟩
      · exact fun _ _ hr => by
          obtain ⟨a0, a1, a2, a3, a4, a5, a6, a7, a8, a9, a10, a11, a12, a13, hA⟩ := hr
          refine ⟨a0, a1, a2, a3, a4, a5, a6, a7, a8, a9, a10, a11, a12, a13, fun L1 h1 => ?_⟩
          have := hA (L1 ++ [x[r]]) (h1.top k0 ha4 rfl)
          rw [show (((r : Int) - 1 + 1).toNat) = r by omega, mb_step hrl] at this
          rwa [show ((((r : Int)) + 1).toNat) = r + 1 by omega]
      · exact fun _ _ hr => by
          obtain ⟨a0, a1, a2, a3, a4, a5, a6, a7, a8, a9, a10, a11, a12, hA⟩ := hr
          refine ⟨a0, a1, a2, a3, a4, a5, a6, a7, a8, a9, a10, a11, a12, fun L1 h1 => ?_⟩
          have := hA (L1 ++ [x[r]]) (h1.top k0 ha4 rfl)
          rw [show (((r : Int) - 1 + 1).toNat) = r by omega, mb_step hrl] at this
          rwa [show ((((r : Int)) + 1).toNat) = r + 1 by omega]
  · rename_i h
    obtain rfl : q = 0 := by omega
    refine Or.inl ⟨trivial, l, Wk.refl _, m1, rfl, m2, rfl, m3, rfl, m4, rfl, (by first | exact trivial | exact rfl), rfl, rfl, rfl, rfl, rfl, rfl, rfl, rfl, rfl, rfl, rfl, rfl, rfl, rfl, fun L1 h1 => ?_⟩
    show TopOk k _ (topL k (L1 ++ (x.take 0).reverse))
    rw [List.take_zero, List.reverse_nil, List.append_nil]
    exact h1
theorem mb01Step0 : stepsOk Try.prog (KLS [(14, addK)] [] 30) 100 4 122 (loopBody Try.prog 4 26) 0 false mb01Fs (mb01Alts mb01R0 mb01R1) mb01Inv mb01Mu ⟨_, _, mb01Sl0, mb01Bl0, mb01Z0⟩ := by
  intro x y hz
  obtain ⟨l, k, s, _, x, j, _⟩ := x
  obtain ⟨⟨_, _, _, _, _⟩, ⟨k1, h1, _⟩, ⟨k2, h2, _⟩, ⟨k3, h3, _⟩, ⟨k4, _, _⟩, m1, m2, m3, _⟩ := y
  refine (mb01Form0 l k s x j k1 h1 k2 h2 k3 h3 k4 m1 m2 m3 _ _ _).mpr ?_
  obtain ⟨q, hj, hq, hx, hs, k0, kle, q1, q2, q3, q4, g1, g2, g3, g4, L0, hT⟩ := hz
  obtain rfl : s = 4 := hs
  obtain rfl : k = k1 := q1.symm
  obtain rfl : k = k2 := q2.symm
  obtain rfl : k = k3 := q3.symm
  obtain rfl : k = k4 := q4.symm
  obtain rfl : h1 = (m1.length, m1.length) := g1
  obtain rfl : h2 = (m2.length, m2.length) := g2
  obtain rfl : h3 = (m3.length, m3.length) := g3
  obtain rfl : j = (q : Int) - 1 := hj
  rw [ifp_ge]
  split
  · rename_i h
    obtain ⟨r, rfl⟩ : ∃ r : Nat, q = r + 1 := ⟨q - 1, by omega⟩
    have e : (((r + 1 : Nat) : Int) - 1) = (r : Int) := by omega
    have hrl : r < x.length := by omega
    simp only [e, natOf_nat]
    refine ⟨⟨by decide, by decide⟩, idx_ok hrl, _, nth_near0 hrl, _, nth_near1 hrl, Or.inr ⟨x[r], rfl, (by first | exact trivial | exact rfl), k0, fun c d hr => ?_, fun c d hr => ?_, trivial⟩⟩
    · obtain ⟨b, e4, _⟩ := c
      obtain ⟨⟨x4, _⟩, _⟩ := d
      obtain ⟨hb4, he4, hx4, hz4⟩ := hr
      obtain rfl : k = x4 := hx4.symm
      have hz4 : k = 0 := hz4
      have ha4 := add_0 (n := x[r]) hz4
      repeat (refine And.intro True.intro ?_)
      have ew : wrapF .i64 (Int.sub (r : Int) 1) = (r : Int) - 1 := by rw [wsub (by omega) (by omega)]
      simp only [ew]
      refine Or.inr ⟨l, Wk.refl _, x, Wk.refl _, m1, rfl, m2, rfl, m3, rfl, (by first | exact trivial | exact rfl), ⟨r, rfl, by omega, hx, rfl, k0, kle, rfl, rfl, rfl, rfl, rfl, rfl, rfl, rfl, L0 ++ [x[r]], hT.top k0 ha4 rfl⟩, ?_, ?_⟩
      · show (((r : Int) - 1) + 1).toNat < (((r : Int)) + 1).toNat; omega
      · refine ⟨?_, ?_, trivial⟩
        · exact fun _ _ hr => by
            obtain ⟨a0, a1, a2, a3, a4, a5, a6, a7, a8, a9, a10, a11, a12, a13, hA⟩ := hr
            refine ⟨a0, a1, a2, a3, a4, a5, a6, a7, a8, a9, a10, a11, a12, a13, fun L1 h1 => ?_⟩
            have := hA (L1 ++ [x[r]]) (h1.top k0 ha4 rfl)
            rw [show (((r : Int) - 1 + 1).toNat) = r by omega, mb_step hrl] at this
            rwa [show ((((r : Int)) + 1).toNat) = r + 1 by omega]
        · exact fun _ _ hr => by
            obtain ⟨a0, a1, a2, a3, a4, a5, a6, a7, a8, a9, a10, a11, a12, hA⟩ := hr
            refine ⟨a0, a1, a2, a3, a4, a5, a6, a7, a8, a9, a10, a11, a12, fun L1 h1 => ?_⟩
            have := hA (L1 ++ [x[r]]) (h1.top k0 ha4 rfl)
            rw [show (((r : Int) - 1 + 1).toNat) = r by omega, mb_step hrl] at this
            rwa [show ((((r : Int)) + 1).toNat) = r + 1 by omega]
    · obtain ⟨b, e4, _⟩ := c
      obtain ⟨⟨x4, g4, _⟩, p4, _⟩ := d
      obtain ⟨hb4, he4, hx4, hz4, hg4, hp4⟩ := hr
      obtain rfl : k = x4 := hx4.symm
      obtain rfl : p4 = [x[r]] := hp4
      obtain rfl : g4 = (1, 1) := hg4
      have hz4 : 0 < k := hz4
      have ha4 := add_1 (n := x[r]) hz4
      repeat (refine And.intro True.intro ?_)
      have ew : wrapF .i64 (Int.sub (r : Int) 1) = (r : Int) - 1 := by rw [wsub (by omega) (by omega)]
      simp only [ew]
      refine Or.inl ⟨l, Wk.refl _, x, Wk.refl _, m1, rfl, m2, rfl, m3, rfl, [x[r]], rfl, (by first | exact trivial | exact rfl), ⟨r, rfl, by omega, hx, rfl, k0, kle, rfl, rfl, rfl, rfl, rfl, rfl, rfl, rfl, L0 ++ [x[r]], hT.top k0 ha4 rfl⟩, ?_, ?_⟩
      · show (((r : Int) - 1) + 1).toNat < (((r : Int)) + 1).toNat; omega
      · refine ⟨?_, ?_, trivial⟩
        · exact fun _ _ hr => by
            obtain ⟨a0, a1, a2, a3, a4, a5, a6, a7, a8, a9, a10, a11, a12, a13, hA⟩ := hr
            refine ⟨a0, a1, a2, a3, a4, a5, a6, a7, a8, a9, a10, a11, a12, a13, fun L1 h1 => ?_⟩
            have := hA (L1 ++ [x[r]]) (h1.top k0 ha4 rfl)
            rw [show (((r : Int) - 1 + 1).toNat) = r by omega, mb_step hrl] at this
            rwa [show ((((r : Int)) + 1).toNat) = r + 1 by omega]
        · exact fun _ _ hr => by
            obtain ⟨a0, a1, a2, a3, a4, a5, a6, a7, a8, a9, a10, a11, a12, hA⟩ := hr
            refine ⟨a0, a1, a2, a3, a4, a5, a6, a7, a8, a9, a10, a11, a12, fun L1 h1 => ?_⟩
            have := hA (L1 ++ [x[r]]) (h1.top k0 ha4 rfl)
            rw [show (((r : Int) - 1 + 1).toNat) = r by omega, mb_step hrl] at this
            rwa [show ((((r : Int)) + 1).toNat) = r + 1 by omega]
  · rename_i h
    obtain rfl : q = 0 := by omega
    refine Or.inr ⟨trivial, l, Wk.refl _, m1, rfl, m2, rfl, m3, rfl, (by first | exact trivial | exact rfl), rfl, rfl, rfl, rfl, rfl, rfl, rfl, rfl, rfl, rfl, rfl, rfl, rfl, fun L1 h1 => ?_⟩
    show TopOk k _ (topL k (L1 ++ (x.take 0).reverse))
    rw [List.take_zero, List.reverse_nil, List.append_nil]
    exact h1
theorem mb01Ok : LoopOk Try.prog 4 122 (.loop (loopBody Try.prog 4 26)) mb01C := loop_ok mb01Mu mixed (KLS_ok (cc_cons addCc (cc_nil))) rfl (steps_cons mb01Step (steps_cons mb01Step0 (steps_nil)))

/-! The loop mb02 of wayfinder/wayfinderlaw04.RankMerges. -/
abbrev mb02Z := ((List Near) × Int × Nat × Unit × (List Near) × Int × Unit) × ((Unit × Unit × Unit × Unit × Unit) × (Int × (Nat × Nat) × Unit) × (Int × (Nat × Nat) × Unit) × (Int × (Nat × Nat) × Unit) × (Int × (Nat × Nat) × Unit) × (List Near) × (List Near) × (List Near) × (List Near) × Unit)
noncomputable def mb02Sl : Tel ((List Near) × Int × Nat × Unit × (List Near) × Int × Unit) := .cons 0 (.lst En) (.cons 2 (.int .i64) (.cons 7 (.sl 0 1) (.cons 12 (.num .i64 2) (.cons 13 (.lst En) (.cons 14 (.int .i64) (.nil))))))
noncomputable def mb02Bl : BTel ((Unit × Unit × Unit × Unit × Unit) × (Int × (Nat × Nat) × Unit) × (Int × (Nat × Nat) × Unit) × (Int × (Nat × Nat) × Unit) × (Int × (Nat × Nat) × Unit) × (List Near) × (List Near) × (List Near) × (List Near) × Unit) := .cons (.row (.cons 0 (.ptr 1) (.cons 1 (.ptr 2) (.cons 2 (.ptr 3) (.cons 3 (.ptr 4) (.nil)))))) (.cons (.row (.cons 0 (.int .i64) (.cons 1 (.slq 5 2) (.nil)))) (.cons (.row (.cons 0 (.int .i64) (.cons 1 (.slq 6 2) (.nil)))) (.cons (.row (.cons 0 (.int .i64) (.cons 1 (.slq 7 2) (.nil)))) (.cons (.row (.cons 0 (.int .i64) (.cons 1 (.slq 8 2) (.nil)))) (.cons (.rows En 30) (.cons (.rows En 30) (.cons (.rows En 30) (.cons (.rows En 30) (.nil)))))))))
noncomputable def mb02Sl0 : Tel ((List Near) × Int × Nat × Unit × (List Near) × Int × Unit) := .cons 0 (.lst En) (.cons 2 (.int .i64) (.cons 7 (.sl 0 1) (.cons 12 (.num .i64 2) (.cons 13 (.lst En) (.cons 14 (.int .i64) (.nil))))))
noncomputable def mb02Bl0 : BTel ((Unit × Unit × Unit × Unit × Unit) × (Int × (Nat × Nat) × Unit) × (Int × (Nat × Nat) × Unit) × (Int × (Nat × Nat) × Unit) × (Int × Unit × Unit) × (List Near) × (List Near) × (List Near) × Unit) := .cons (.row (.cons 0 (.ptr 1) (.cons 1 (.ptr 2) (.cons 2 (.ptr 3) (.cons 3 (.ptr 4) (.nil)))))) (.cons (.row (.cons 0 (.int .i64) (.cons 1 (.slq 5 2) (.nil)))) (.cons (.row (.cons 0 (.int .i64) (.cons 1 (.slq 6 2) (.nil)))) (.cons (.row (.cons 0 (.int .i64) (.cons 1 (.slq 7 2) (.nil)))) (.cons (.row (.cons 0 (.int .i64) (.cons 1 (.nilS) (.nil)))) (.cons (.rows En 30) (.cons (.rows En 30) (.cons (.rows En 30) (.nil))))))))
noncomputable def mb02Z0 : ((List Near) × Int × Nat × Unit × (List Near) × Int × Unit) → ((Unit × Unit × Unit × Unit × Unit) × (Int × (Nat × Nat) × Unit) × (Int × (Nat × Nat) × Unit) × (Int × (Nat × Nat) × Unit) × (Int × Unit × Unit) × (List Near) × (List Near) × (List Near) × Unit) → mb02Z := fun (l, (k, (s, ((), (x, (j, ())))))) (((), ((), ((), ((), ())))), ((k1, (h1, ())), ((k2, (h2, ())), ((k3, (h3, ())), ((k4, ((), ())), (m1, (m2, (m3, ())))))))) => ((l, (k, (s, ((), (x, (j, ())))))), (((), ((), ((), ((), ())))), ((k1, (h1, ())), ((k2, (h2, ())), ((k3, (h3, ())), ((k4, ((0, 0), ())), (m1, (m2, (m3, ([], ()))))))))))
noncomputable def mb02Fs : List (LForm mb02Z) := [⟨_, _, mb02Sl, mb02Bl, fun x y => (x, y)⟩, ⟨_, _, mb02Sl0, mb02Bl0, mb02Z0⟩]
noncomputable def mb02Alts (R0 : mb02Z → ((List Near) × Int × Nat × Unit × Unit) → ((Unit × Unit × Unit × Unit × Unit) × (Int × (Nat × Nat) × Unit) × (Int × (Nat × Nat) × Unit) × (Int × (Nat × Nat) × Unit) × (Int × (Nat × Nat) × Unit) × (List Near) × (List Near) × (List Near) × (List Near) × Unit) → Prop) (R1 : mb02Z → ((List Near) × Int × Nat × Unit × Unit) → ((Unit × Unit × Unit × Unit × Unit) × (Int × (Nat × Nat) × Unit) × (Int × (Nat × Nat) × Unit) × (Int × (Nat × Nat) × Unit) × (Int × Unit × Unit) × (List Near) × (List Near) × (List Near) × Unit) → Prop) : List (Alt mb02Z) := [⟨.exit 6, (List Near) × Int × Nat × Unit × Unit, (Unit × Unit × Unit × Unit × Unit) × (Int × (Nat × Nat) × Unit) × (Int × (Nat × Nat) × Unit) × (Int × (Nat × Nat) × Unit) × (Int × (Nat × Nat) × Unit) × (List Near) × (List Near) × (List Near) × (List Near) × Unit, .cons 0 (.lst En) (.cons 2 (.int .i64) (.cons 7 (.sl 0 1) (.cons 12 (.num .i64 2) (.nil)))), .cons (.row (.cons 0 (.ptr 1) (.cons 1 (.ptr 2) (.cons 2 (.ptr 3) (.cons 3 (.ptr 4) (.nil)))))) (.cons (.row (.cons 0 (.int .i64) (.cons 1 (.slq 5 2) (.nil)))) (.cons (.row (.cons 0 (.int .i64) (.cons 1 (.slq 6 2) (.nil)))) (.cons (.row (.cons 0 (.int .i64) (.cons 1 (.slq 7 2) (.nil)))) (.cons (.row (.cons 0 (.int .i64) (.cons 1 (.slq 8 2) (.nil)))) (.cons (.rows En 30) (.cons (.rows En 30) (.cons (.rows En 30) (.cons (.rows En 30) (.nil))))))))), R0⟩, ⟨.exit 6, (List Near) × Int × Nat × Unit × Unit, (Unit × Unit × Unit × Unit × Unit) × (Int × (Nat × Nat) × Unit) × (Int × (Nat × Nat) × Unit) × (Int × (Nat × Nat) × Unit) × (Int × Unit × Unit) × (List Near) × (List Near) × (List Near) × Unit, .cons 0 (.lst En) (.cons 2 (.int .i64) (.cons 7 (.sl 0 1) (.cons 12 (.num .i64 2) (.nil)))), .cons (.row (.cons 0 (.ptr 1) (.cons 1 (.ptr 2) (.cons 2 (.ptr 3) (.cons 3 (.ptr 4) (.nil)))))) (.cons (.row (.cons 0 (.int .i64) (.cons 1 (.slq 5 2) (.nil)))) (.cons (.row (.cons 0 (.int .i64) (.cons 1 (.slq 6 2) (.nil)))) (.cons (.row (.cons 0 (.int .i64) (.cons 1 (.slq 7 2) (.nil)))) (.cons (.row (.cons 0 (.int .i64) (.cons 1 (.nilS) (.nil)))) (.cons (.rows En 30) (.cons (.rows En 30) (.cons (.rows En 30) (.nil)))))))), R1⟩]

theorem mb02Form (l : List Near) (k : Int) (s : Nat) (x : List Near) (j : Int) (k1 : Int) (h1 : Nat × Nat) (k2 : Int) (h2 : Nat × Nat) (k3 : Int) (h3 : Nat × Nat) (k4 : Int) (h4 : Nat × Nat) (m1 : List Near) (m2 : List Near) (m3 : List Near) (m4 : List Near) (N : mb02Z → Prop) (R0 : mb02Z → ((List Near) × Int × Nat × Unit × Unit) → ((Unit × Unit × Unit × Unit × Unit) × (Int × (Nat × Nat) × Unit) × (Int × (Nat × Nat) × Unit) × (Int × (Nat × Nat) × Unit) × (Int × (Nat × Nat) × Unit) × (List Near) × (List Near) × (List Near) × (List Near) × Unit) → Prop) (R1 : mb02Z → ((List Near) × Int × Nat × Unit × Unit) → ((Unit × Unit × Unit × Unit × Unit) × (Int × (Nat × Nat) × Unit) × (Int × (Nat × Nat) × Unit) × (Int × (Nat × Nat) × Unit) × (Int × Unit × Unit) × (List Near) × (List Near) × (List Near) × Unit) → Prop) : ((runW Try.prog (KLS [(14, addK)] [] 30) 100).code none 4 122 (loopBody Try.prog 4 26) (mkT (mb02Sl.av id (l, (k, (s, ((), (x, (j, ())))))))) [] (stL false (mb02Bl.obs id (((), ((), ((), ((), ())))), ((k1, (h1, ())), ((k2, (h2, ())), ((k3, (h3, ())), ((k4, (h4, ())), (m1, (m2, (m3, (m4, ()))))))))))) (postL 0 mb02Fs (mb02Alts R0 R1) ((l, (k, (s, ((), (x, (j, ())))))), (((), ((), ((), ((), ())))), ((k1, (h1, ())), ((k2, (h2, ())), ((k3, (h3, ())), ((k4, (h4, ())), (m1, (m2, (m3, (m4, ())))))))))) N)) =
  ( ifp (leInt (0 : Int) j) (idxOk (3 : Int) s ∧ idxOk j x.length ∧ ∃ (x_1 : Int), nth (((natOf j).mul (2 : Nat)).add (0 : Nat)) (List.flatMap En.f x) = some
  (AV.int IntKind.i64 x_1) ∧ ∃ (x_2 : Int), nth (((natOf j).mul (2 : Nat)).add (1 : Nat)) (List.flatMap En.f x) = some (AV.int IntKind.i64 x_2) ∧ ((∃ (a : Near),
  AV.agg [AV.int IntKind.i64 x_1, AV.int IntKind.i64 x_2] = AV.agg [AV.int IntKind.i64 a.fst, AV.int IntKind.i64 a.snd.fst] ∧ ∃ l_1, FE m4 l_1 ∧ true = true ∧
  add1Pre (((), a, ()), (k4, (h4.fst, h4.snd), ()), l_1, ()) ∧ (∀ c d, add1R0 (((), a, ()), (k4, (h4.fst, h4.snd), ()), l_1, ()) c d → True ∧ True ∧ True ∧ ((∃
  l_2, VW l l_2 ∧ ∃ l, VW x l ∧ ∃ l_3, FE m1 l_3 ∧ ∃ l_4, FE m2 l_4 ∧ ∃ l_5, FE m3 l_5 ∧ ∃ l_6, FE d.2.1 l_6 ∧ true = true ∧ N ((l_2, k, s, (), l, wrapF
  IntKind.i64 (j.sub (1 : Int)), ()), ((), (), (), (), ()), (k1, (h1.fst, h1.snd), ()), (k2, (h2.fst, h2.snd), ()), (k3, (h3.fst, h3.snd), ()), (d.1.1,
  (d.1.2.1.fst, d.1.2.1.snd), ()), l_3, l_4, l_5, l_6, ())) ∨ ∃ l_2, VW l l_2 ∧ ∃ l, VW x l ∧ False)) ∧ True) ∨ ∃ (a : Near), AV.agg [AV.int IntKind.i64 x_1,
  AV.int IntKind.i64 x_2] = AV.agg [AV.int IntKind.i64 a.fst, AV.int IntKind.i64 a.snd.fst] ∧ False)) ((True ∧ ∃ l_1, VW l l_1 ∧ ∃ l_2, FE m1 l_2 ∧ ∃ l_3, FE m2
  l_3 ∧ ∃ l_4, FE m3 l_4 ∧ ∃ l_5, FE m4 l_5 ∧ true = true ∧ R0 ((l, k, s, (), x, j, ()), ((), (), (), (), ()), (k1, h1, ()), (k2, h2, ()), (k3, h3, ()), (k4, h4,
  ()), m1, m2, m3, m4, ()) (l_1, k, s, (), ()) (((), (), (), (), ()), (k1, (h1.fst, h1.snd), ()), (k2, (h2.fst, h2.snd), ()), (k3, (h3.fst, h3.snd), ()), (k4,
  (h4.fst, h4.snd), ()), l_2, l_3, l_4, l_5, ())) ∨ True ∧ ∃ l_1, VW l l_1 ∧ False)) := by kernel_rfl

theorem mb02Form0 (l : List Near) (k : Int) (s : Nat) (x : List Near) (j : Int) (k1 : Int) (h1 : Nat × Nat) (k2 : Int) (h2 : Nat × Nat) (k3 : Int) (h3 : Nat × Nat) (k4 : Int) (m1 : List Near) (m2 : List Near) (m3 : List Near) (N : mb02Z → Prop) (R0 : mb02Z → ((List Near) × Int × Nat × Unit × Unit) → ((Unit × Unit × Unit × Unit × Unit) × (Int × (Nat × Nat) × Unit) × (Int × (Nat × Nat) × Unit) × (Int × (Nat × Nat) × Unit) × (Int × (Nat × Nat) × Unit) × (List Near) × (List Near) × (List Near) × (List Near) × Unit) → Prop) (R1 : mb02Z → ((List Near) × Int × Nat × Unit × Unit) → ((Unit × Unit × Unit × Unit × Unit) × (Int × (Nat × Nat) × Unit) × (Int × (Nat × Nat) × Unit) × (Int × (Nat × Nat) × Unit) × (Int × Unit × Unit) × (List Near) × (List Near) × (List Near) × Unit) → Prop) : ((runW Try.prog (KLS [(14, addK)] [] 30) 100).code none 4 122 (loopBody Try.prog 4 26) (mkT (mb02Sl0.av id (l, (k, (s, ((), (x, (j, ())))))))) [] (stL false (mb02Bl0.obs id (((), ((), ((), ((), ())))), ((k1, (h1, ())), ((k2, (h2, ())), ((k3, (h3, ())), ((k4, ((), ())), (m1, (m2, (m3, ())))))))))) (postL 0 mb02Fs (mb02Alts R0 R1) (mb02Z0 (l, (k, (s, ((), (x, (j, ())))))) (((), ((), ((), ((), ())))), ((k1, (h1, ())), ((k2, (h2, ())), ((k3, (h3, ())), ((k4, ((), ())), (m1, (m2, (m3, ()))))))))) N)) =
  ( ifp (leInt (0 : Int) j) (idxOk (3 : Int) s ∧ idxOk j x.length ∧ ∃ (x_1 : Int), nth (((natOf j).mul (2 : Nat)).add (0 : Nat)) (List.flatMap En.f x) = some
  (AV.int IntKind.i64 x_1) ∧ ∃ (x_2 : Int), nth (((natOf j).mul (2 : Nat)).add (1 : Nat)) (List.flatMap En.f x) = some (AV.int IntKind.i64 x_2) ∧ ((∃ (a : Near),
  AV.agg [AV.int IntKind.i64 x_1, AV.int IntKind.i64 x_2] = AV.agg [AV.int IntKind.i64 a.fst, AV.int IntKind.i64 a.snd.fst] ∧ False) ∨ ∃ (a : Near), AV.agg
  [AV.int IntKind.i64 x_1, AV.int IntKind.i64 x_2] = AV.agg [AV.int IntKind.i64 a.fst, AV.int IntKind.i64 a.snd.fst] ∧ true = true ∧ add0Pre (((), a, ()), (k4,
  (), ()), ()) ∧ (∀ c d, add0R0 (((), a, ()), (k4, (), ()), ()) c d → True ∧ True ∧ True ∧ ((∃ l_1, VW l l_1 ∧ ∃ l, VW x l ∧ False) ∨ ∃ l_1, VW l l_1 ∧ ∃ l, VW x
  l ∧ ∃ l_2, FE m1 l_2 ∧ ∃ l_3, FE m2 l_3 ∧ ∃ l_4, FE m3 l_4 ∧ true = true ∧ N ((l_1, k, s, (), l, wrapF IntKind.i64 (j.sub (1 : Int)), ()), ((), (), (), (),
  ()), (k1, (h1.fst, h1.snd), ()), (k2, (h2.fst, h2.snd), ()), (k3, (h3.fst, h3.snd), ()), (d.1.1, ((0 : Nat), (0 : Nat)), ()), l_2, l_3, l_4, [], ()))) ∧ (∀ c
  d, add0R1 (((), a, ()), (k4, (), ()), ()) c d → True ∧ True ∧ True ∧ ((∃ l_1, VW l l_1 ∧ ∃ l, VW x l ∧ ∃ l_2, FE m1 l_2 ∧ ∃ l_3, FE m2 l_3 ∧ ∃ l_4, FE m3 l_4 ∧
  ∃ l_5, FE d.2.1 l_5 ∧ true = true ∧ N ((l_1, k, s, (), l, wrapF IntKind.i64 (j.sub (1 : Int)), ()), ((), (), (), (), ()), (k1, (h1.fst, h1.snd), ()), (k2,
  (h2.fst, h2.snd), ()), (k3, (h3.fst, h3.snd), ()), (d.1.1, (d.1.2.1.fst, d.1.2.1.snd), ()), l_2, l_3, l_4, l_5, ())) ∨ ∃ l_1, VW l l_1 ∧ ∃ l, VW x l ∧ False))
  ∧ True)) ((True ∧ ∃ l_1, VW l l_1 ∧ False) ∨ True ∧ ∃ l_1, VW l l_1 ∧ ∃ l_2, FE m1 l_2 ∧ ∃ l_3, FE m2 l_3 ∧ ∃ l_4, FE m3 l_4 ∧ true = true ∧ R1 ((l, k, s, (),
  x, j, ()), ((), (), (), (), ()), (k1, h1, ()), (k2, h2, ()), (k3, h3, ()), (k4, ((0 : Nat), (0 : Nat)), ()), m1, m2, m3, [], ()) (l_1, k, s, (), ()) (((), (),
  (), (), ()), (k1, (h1.fst, h1.snd), ()), (k2, (h2.fst, h2.snd), ()), (k3, (h3.fst, h3.snd), ()), (k4, (), ()), l_2, l_3, l_4, ()))) := by kernel_rfl

def mb02Inv : mb02Z → Prop := fun ((l, (k, (s, ((), (x, (j, ())))))), (((), ((), ((), ((), ())))), ((k1, (h1, ())), ((k2, (h2, ())), ((k3, (h3, ())), ((k4, (h4, ())), (m1, (m2, (m3, (m4, ())))))))))) => ∃ q : Nat, j = (q : Int) - 1 ∧ q ≤ x.length ∧ x.length ≤ 150 ∧ s = 4 ∧ 0 ≤ k ∧ k ≤ 150 ∧ k1 = k ∧ k2 = k ∧ k3 = k ∧ k4 = k ∧ h1 = (m1.length, m1.length) ∧ h2 = (m2.length, m2.length) ∧ h3 = (m3.length, m3.length) ∧ h4 = (m4.length, m4.length) ∧ ∃ L0, TopOk k m4 (topL k L0)
def mb02Mu : mb02Z → Nat := fun ((l, (k, (s, ((), (x, (j, ())))))), (((), ((), ((), ((), ())))), ((k1, (h1, ())), ((k2, (h2, ())), ((k3, (h3, ())), ((k4, (h4, ())), (m1, (m2, (m3, (m4, ())))))))))) => (j + 1).toNat
def mb02R0 : mb02Z → ((List Near) × Int × Nat × Unit × Unit) → ((Unit × Unit × Unit × Unit × Unit) × (Int × (Nat × Nat) × Unit) × (Int × (Nat × Nat) × Unit) × (Int × (Nat × Nat) × Unit) × (Int × (Nat × Nat) × Unit) × (List Near) × (List Near) × (List Near) × (List Near) × Unit) → Prop := fun ((l, (k, (s, ((), (x, (j, ())))))), (((), ((), ((), ((), ())))), ((k1, (h1, ())), ((k2, (h2, ())), ((k3, (h3, ())), ((k4, (h4, ())), (m1, (m2, (m3, (m4, ())))))))))) (l2, y, s2, _) (_, (x1, g1, _), (x2, g2, _), (x3, g3, _), (x4, g4, _), n1, n2, n3, n4, _) => l2 = l ∧ y = k ∧ s2 = 4 ∧ x1 = k ∧ x2 = k ∧ x3 = k ∧ x4 = k ∧ g1 = (m1.length, m1.length) ∧ n1 = m1 ∧ g2 = (m2.length, m2.length) ∧ n2 = m2 ∧ g3 = (m3.length, m3.length) ∧ n3 = m3 ∧ g4 = (n4.length, n4.length) ∧ ∀ L0, TopOk k m4 (topL k L0) → TopOk k n4 (topL k (L0 ++ (x.take (j + 1).toNat).reverse))
def mb02R1 : mb02Z → ((List Near) × Int × Nat × Unit × Unit) → ((Unit × Unit × Unit × Unit × Unit) × (Int × (Nat × Nat) × Unit) × (Int × (Nat × Nat) × Unit) × (Int × (Nat × Nat) × Unit) × (Int × Unit × Unit) × (List Near) × (List Near) × (List Near) × Unit) → Prop := fun ((l, (k, (s, ((), (x, (j, ())))))), (((), ((), ((), ((), ())))), ((k1, (h1, ())), ((k2, (h2, ())), ((k3, (h3, ())), ((k4, (h4, ())), (m1, (m2, (m3, (m4, ())))))))))) (l2, y, s2, _) (_, (x1, g1, _), (x2, g2, _), (x3, g3, _), (x4, _), n1, n2, n3, _) => l2 = l ∧ y = k ∧ s2 = 4 ∧ x1 = k ∧ x2 = k ∧ x3 = k ∧ x4 = k ∧ g1 = (m1.length, m1.length) ∧ n1 = m1 ∧ g2 = (m2.length, m2.length) ∧ n2 = m2 ∧ g3 = (m3.length, m3.length) ∧ n3 = m3 ∧ ∀ L0, TopOk k m4 (topL k L0) → TopOk k [] (topL k (L0 ++ (x.take (j + 1).toNat).reverse))
noncomputable def mb02C : LoopC := loopC 0 mb02Fs (mb02Alts mb02R0 mb02R1) mb02Inv

theorem mb02Step : stepsOk Try.prog (KLS [(14, addK)] [] 30) 100 4 122 (loopBody Try.prog 4 26) 0 false mb02Fs (mb02Alts mb02R0 mb02R1) mb02Inv mb02Mu ⟨_, _, mb02Sl, mb02Bl, fun x y => (x, y)⟩ := by
  intro x y hz
  obtain ⟨l, k, s, _, x, j, _⟩ := x
  obtain ⟨⟨_, _, _, _, _⟩, ⟨k1, h1, _⟩, ⟨k2, h2, _⟩, ⟨k3, h3, _⟩, ⟨k4, h4, _⟩, m1, m2, m3, m4, _⟩ := y
  refine (mb02Form l k s x j k1 h1 k2 h2 k3 h3 k4 h4 m1 m2 m3 m4 _ _ _).mpr ?_
  obtain ⟨q, hj, hq, hx, hs, k0, kle, q1, q2, q3, q4, g1, g2, g3, g4, L0, hT⟩ := hz
  obtain rfl : s = 4 := hs
  obtain rfl : k = k1 := q1.symm
  obtain rfl : k = k2 := q2.symm
  obtain rfl : k = k3 := q3.symm
  obtain rfl : k = k4 := q4.symm
  obtain rfl : h1 = (m1.length, m1.length) := g1
  obtain rfl : h2 = (m2.length, m2.length) := g2
  obtain rfl : h3 = (m3.length, m3.length) := g3
  obtain rfl : h4 = (m4.length, m4.length) := g4
  obtain rfl : j = (q : Int) - 1 := hj
  rw [ifp_ge]
  split
  · rename_i h
    obtain ⟨r, rfl⟩ : ∃ r : Nat, q = r + 1 := ⟨q - 1, by omega⟩
    have e : (((r + 1 : Nat) : Int) - 1) = (r : Int) := by omega
    have hrl : r < x.length := by omega
    simp only [e, natOf_nat]
    have hl4 := hT.len
    have hl5 := hT.l
    refine ⟨⟨by decide, by decide⟩, idx_ok hrl, _, nth_near0 hrl, _, nth_near1 hrl, Or.inl ⟨x[r], rfl, m4, rfl, (by first | exact trivial | exact rfl), ⟨rfl, hT.h, by omega, k0⟩, fun c d hr => ?_, trivial⟩⟩
    obtain ⟨b, e4, _⟩ := c
    obtain ⟨⟨x4, g4, _⟩, p4, _⟩ := d
    obtain ⟨he4, hx4, hg4, ha4⟩ := hr
    obtain rfl : k = x4 := hx4.symm
    obtain rfl : g4 = (p4.length, p4.length) := hg4
    repeat (refine And.intro True.intro ?_)
    have ew : wrapF .i64 (Int.sub (r : Int) 1) = (r : Int) - 1 := by rw [wsub (by omega) (by omega)]
    simp only [ew]
    refine Or.inl ⟨l, Wk.refl _, x, Wk.refl _, m1, rfl, m2, rfl, m3, rfl, p4, rfl, (by first | exact trivial | exact rfl), ⟨r, rfl, by omega, hx, rfl, k0, kle, rfl, rfl, rfl, rfl, rfl, rfl, rfl, rfl, L0 ++ [x[r]], hT.top k0 ha4 rfl⟩, ?_, ?_⟩
    · show (((r : Int) - 1) + 1).toNat < (((r : Int)) + 1).toNat; omega
    · refine ⟨?_, ?_, trivial⟩
      · exact fun _ _ hr => by
          obtain ⟨a0, a1, a2, a3, a4, a5, a6, a7, a8, a9, a10, a11, a12, a13, hA⟩ := hr
          refine ⟨a0, a1, a2, a3, a4, a5, a6, a7, a8, a9, a10, a11, a12, a13, fun L1 h1 => ?_⟩
          have := hA (L1 ++ [x[r]]) (h1.top k0 ha4 rfl)
          rw [show (((r : Int) - 1 + 1).toNat) = r by omega, mb_step hrl] at this
          rwa [show ((((r : Int)) + 1).toNat) = r + 1 by omega]
      · exact fun _ _ hr => by
          obtain ⟨a0, a1, a2, a3, a4, a5, a6, a7, a8, a9, a10, a11, a12, hA⟩ := hr
          refine ⟨a0, a1, a2, a3, a4, a5, a6, a7, a8, a9, a10, a11, a12, fun L1 h1 => ?_⟩
          have := hA (L1 ++ [x[r]]) (h1.top k0 ha4 rfl)
          rw [show (((r : Int) - 1 + 1).toNat) = r by omega, mb_step hrl] at this
          rwa [show ((((r : Int)) + 1).toNat) = r + 1 by omega]
  · rename_i h
    obtain rfl : q = 0 := by omega
    refine Or.inl ⟨trivial, l, Wk.refl _, m1, rfl, m2, rfl, m3, rfl, m4, rfl, (by first | exact trivial | exact rfl), rfl, rfl, rfl, rfl, rfl, rfl, rfl, rfl, rfl, rfl, rfl, rfl, rfl, rfl, fun L1 h1 => ?_⟩
    show TopOk k _ (topL k (L1 ++ (x.take 0).reverse))
    rw [List.take_zero, List.reverse_nil, List.append_nil]
    exact h1
theorem mb02Step0 : stepsOk Try.prog (KLS [(14, addK)] [] 30) 100 4 122 (loopBody Try.prog 4 26) 0 false mb02Fs (mb02Alts mb02R0 mb02R1) mb02Inv mb02Mu ⟨_, _, mb02Sl0, mb02Bl0, mb02Z0⟩ := by
  intro x y hz
  obtain ⟨l, k, s, _, x, j, _⟩ := x
  obtain ⟨⟨_, _, _, _, _⟩, ⟨k1, h1, _⟩, ⟨k2, h2, _⟩, ⟨k3, h3, _⟩, ⟨k4, _, _⟩, m1, m2, m3, _⟩ := y
  refine (mb02Form0 l k s x j k1 h1 k2 h2 k3 h3 k4 m1 m2 m3 _ _ _).mpr ?_
  obtain ⟨q, hj, hq, hx, hs, k0, kle, q1, q2, q3, q4, g1, g2, g3, g4, L0, hT⟩ := hz
  obtain rfl : s = 4 := hs
  obtain rfl : k = k1 := q1.symm
  obtain rfl : k = k2 := q2.symm
  obtain rfl : k = k3 := q3.symm
  obtain rfl : k = k4 := q4.symm
  obtain rfl : h1 = (m1.length, m1.length) := g1
  obtain rfl : h2 = (m2.length, m2.length) := g2
  obtain rfl : h3 = (m3.length, m3.length) := g3
  obtain rfl : j = (q : Int) - 1 := hj
  rw [ifp_ge]
  split
  · rename_i h
    obtain ⟨r, rfl⟩ : ∃ r : Nat, q = r + 1 := ⟨q - 1, by omega⟩
    have e : (((r + 1 : Nat) : Int) - 1) = (r : Int) := by omega
    have hrl : r < x.length := by omega
    simp only [e, natOf_nat]
    refine ⟨⟨by decide, by decide⟩, idx_ok hrl, _, nth_near0 hrl, _, nth_near1 hrl, Or.inr ⟨x[r], rfl, (by first | exact trivial | exact rfl), k0, fun c d hr => ?_, fun c d hr => ?_, trivial⟩⟩
    · obtain ⟨b, e4, _⟩ := c
      obtain ⟨⟨x4, _⟩, _⟩ := d
      obtain ⟨hb4, he4, hx4, hz4⟩ := hr
      obtain rfl : k = x4 := hx4.symm
      have hz4 : k = 0 := hz4
      have ha4 := add_0 (n := x[r]) hz4
      repeat (refine And.intro True.intro ?_)
      have ew : wrapF .i64 (Int.sub (r : Int) 1) = (r : Int) - 1 := by rw [wsub (by omega) (by omega)]
      simp only [ew]
      refine Or.inr ⟨l, Wk.refl _, x, Wk.refl _, m1, rfl, m2, rfl, m3, rfl, (by first | exact trivial | exact rfl), ⟨r, rfl, by omega, hx, rfl, k0, kle, rfl, rfl, rfl, rfl, rfl, rfl, rfl, rfl, L0 ++ [x[r]], hT.top k0 ha4 rfl⟩, ?_, ?_⟩
      · show (((r : Int) - 1) + 1).toNat < (((r : Int)) + 1).toNat; omega
      · refine ⟨?_, ?_, trivial⟩
        · exact fun _ _ hr => by
            obtain ⟨a0, a1, a2, a3, a4, a5, a6, a7, a8, a9, a10, a11, a12, a13, hA⟩ := hr
            refine ⟨a0, a1, a2, a3, a4, a5, a6, a7, a8, a9, a10, a11, a12, a13, fun L1 h1 => ?_⟩
            have := hA (L1 ++ [x[r]]) (h1.top k0 ha4 rfl)
            rw [show (((r : Int) - 1 + 1).toNat) = r by omega, mb_step hrl] at this
            rwa [show ((((r : Int)) + 1).toNat) = r + 1 by omega]
        · exact fun _ _ hr => by
            obtain ⟨a0, a1, a2, a3, a4, a5, a6, a7, a8, a9, a10, a11, a12, hA⟩ := hr
            refine ⟨a0, a1, a2, a3, a4, a5, a6, a7, a8, a9, a10, a11, a12, fun L1 h1 => ?_⟩
            have := hA (L1 ++ [x[r]]) (h1.top k0 ha4 rfl)
            rw [show (((r : Int) - 1 + 1).toNat) = r by omega, mb_step hrl] at this
            rwa [show ((((r : Int)) + 1).toNat) = r + 1 by omega]
    · obtain ⟨b, e4, _⟩ := c
      obtain ⟨⟨x4, g4, _⟩, p4, _⟩ := d
      obtain ⟨hb4, he4, hx4, hz4, hg4, hp4⟩ := hr
      obtain rfl : k = x4 := hx4.symm
      obtain rfl : p4 = [x[r]] := hp4
      obtain rfl : g4 = (1, 1) := hg4
      have hz4 : 0 < k := hz4
      have ha4 := add_1 (n := x[r]) hz4
      repeat (refine And.intro True.intro ?_)
      have ew : wrapF .i64 (Int.sub (r : Int) 1) = (r : Int) - 1 := by rw [wsub (by omega) (by omega)]
      simp only [ew]
      refine Or.inl ⟨l, Wk.refl _, x, Wk.refl _, m1, rfl, m2, rfl, m3, rfl, [x[r]], rfl, (by first | exact trivial | exact rfl), ⟨r, rfl, by omega, hx, rfl, k0, kle, rfl, rfl, rfl, rfl, rfl, rfl, rfl, rfl, L0 ++ [x[r]], hT.top k0 ha4 rfl⟩, ?_, ?_⟩
      · show (((r : Int) - 1) + 1).toNat < (((r : Int)) + 1).toNat; omega
      · refine ⟨?_, ?_, trivial⟩
        · exact fun _ _ hr => by
            obtain ⟨a0, a1, a2, a3, a4, a5, a6, a7, a8, a9, a10, a11, a12, a13, hA⟩ := hr
            refine ⟨a0, a1, a2, a3, a4, a5, a6, a7, a8, a9, a10, a11, a12, a13, fun L1 h1 => ?_⟩
            have := hA (L1 ++ [x[r]]) (h1.top k0 ha4 rfl)
            rw [show (((r : Int) - 1 + 1).toNat) = r by omega, mb_step hrl] at this
            rwa [show ((((r : Int)) + 1).toNat) = r + 1 by omega]
        · exact fun _ _ hr => by
            obtain ⟨a0, a1, a2, a3, a4, a5, a6, a7, a8, a9, a10, a11, a12, hA⟩ := hr
            refine ⟨a0, a1, a2, a3, a4, a5, a6, a7, a8, a9, a10, a11, a12, fun L1 h1 => ?_⟩
            have := hA (L1 ++ [x[r]]) (h1.top k0 ha4 rfl)
            rw [show (((r : Int) - 1 + 1).toNat) = r by omega, mb_step hrl] at this
            rwa [show ((((r : Int)) + 1).toNat) = r + 1 by omega]
  · rename_i h
    obtain rfl : q = 0 := by omega
    refine Or.inr ⟨trivial, l, Wk.refl _, m1, rfl, m2, rfl, m3, rfl, (by first | exact trivial | exact rfl), rfl, rfl, rfl, rfl, rfl, rfl, rfl, rfl, rfl, rfl, rfl, rfl, rfl, fun L1 h1 => ?_⟩
    show TopOk k _ (topL k (L1 ++ (x.take 0).reverse))
    rw [List.take_zero, List.reverse_nil, List.append_nil]
    exact h1
theorem mb02Ok : LoopOk Try.prog 4 122 (.loop (loopBody Try.prog 4 26)) mb02C := loop_ok mb02Mu mixed (KLS_ok (cc_cons addCc (cc_nil))) rfl (steps_cons mb02Step (steps_cons mb02Step0 (steps_nil)))

/-! The loop mb11 of wayfinder/wayfinderlaw04.RankMerges. -/
abbrev mb11Z := ((List Near) × Int × Nat × Unit × (List Near) × Int × Unit) × ((Unit × Unit × Unit × Unit × Unit) × (Int × Unit × Unit) × (Int × Unit × Unit) × (Int × Unit × Unit) × (Int × (Nat × Nat) × Unit) × (List Near) × Unit)
noncomputable def mb11Sl : Tel ((List Near) × Int × Nat × Unit × (List Near) × Int × Unit) := .cons 0 (.lst En) (.cons 2 (.int .i64) (.cons 7 (.sl 0 1) (.cons 12 (.num .i64 1) (.cons 13 (.lst En) (.cons 14 (.int .i64) (.nil))))))
noncomputable def mb11Bl : BTel ((Unit × Unit × Unit × Unit × Unit) × (Int × Unit × Unit) × (Int × Unit × Unit) × (Int × Unit × Unit) × (Int × (Nat × Nat) × Unit) × (List Near) × Unit) := .cons (.row (.cons 0 (.ptr 1) (.cons 1 (.ptr 2) (.cons 2 (.ptr 3) (.cons 3 (.ptr 4) (.nil)))))) (.cons (.row (.cons 0 (.int .i64) (.cons 1 (.nilS) (.nil)))) (.cons (.row (.cons 0 (.int .i64) (.cons 1 (.nilS) (.nil)))) (.cons (.row (.cons 0 (.int .i64) (.cons 1 (.nilS) (.nil)))) (.cons (.row (.cons 0 (.int .i64) (.cons 1 (.slq 5 2) (.nil)))) (.cons (.rows En 30) (.nil))))))
noncomputable def mb11Sl0 : Tel ((List Near) × Int × Nat × Unit × (List Near) × Int × Unit) := .cons 0 (.lst En) (.cons 2 (.int .i64) (.cons 7 (.sl 0 1) (.cons 12 (.num .i64 1) (.cons 13 (.lst En) (.cons 14 (.int .i64) (.nil))))))
noncomputable def mb11Bl0 : BTel ((Unit × Unit × Unit × Unit × Unit) × (Int × Unit × Unit) × (Int × Unit × Unit) × (Int × Unit × Unit) × (Int × Unit × Unit) × Unit) := .cons (.row (.cons 0 (.ptr 1) (.cons 1 (.ptr 2) (.cons 2 (.ptr 3) (.cons 3 (.ptr 4) (.nil)))))) (.cons (.row (.cons 0 (.int .i64) (.cons 1 (.nilS) (.nil)))) (.cons (.row (.cons 0 (.int .i64) (.cons 1 (.nilS) (.nil)))) (.cons (.row (.cons 0 (.int .i64) (.cons 1 (.nilS) (.nil)))) (.cons (.row (.cons 0 (.int .i64) (.cons 1 (.nilS) (.nil)))) (.nil)))))
noncomputable def mb11Z0 : ((List Near) × Int × Nat × Unit × (List Near) × Int × Unit) → ((Unit × Unit × Unit × Unit × Unit) × (Int × Unit × Unit) × (Int × Unit × Unit) × (Int × Unit × Unit) × (Int × Unit × Unit) × Unit) → mb11Z := fun (l, (k, (s, ((), (x, (j, ())))))) (((), ((), ((), ((), ())))), ((k1, ((), ())), ((k2, ((), ())), ((k3, ((), ())), ((k4, ((), ())), ()))))) => ((l, (k, (s, ((), (x, (j, ())))))), (((), ((), ((), ((), ())))), ((k1, ((), ())), ((k2, ((), ())), ((k3, ((), ())), ((k4, ((0, 0), ())), ([], ())))))))
noncomputable def mb11Fs : List (LForm mb11Z) := [⟨_, _, mb11Sl, mb11Bl, fun x y => (x, y)⟩, ⟨_, _, mb11Sl0, mb11Bl0, mb11Z0⟩]
noncomputable def mb11Alts (R0 : mb11Z → ((List Near) × Int × Nat × Unit × Unit) → ((Unit × Unit × Unit × Unit × Unit) × (Int × Unit × Unit) × (Int × Unit × Unit) × (Int × Unit × Unit) × (Int × (Nat × Nat) × Unit) × (List Near) × Unit) → Prop) (R1 : mb11Z → ((List Near) × Int × Nat × Unit × Unit) → ((Unit × Unit × Unit × Unit × Unit) × (Int × Unit × Unit) × (Int × Unit × Unit) × (Int × Unit × Unit) × (Int × Unit × Unit) × Unit) → Prop) : List (Alt mb11Z) := [⟨.exit 6, (List Near) × Int × Nat × Unit × Unit, (Unit × Unit × Unit × Unit × Unit) × (Int × Unit × Unit) × (Int × Unit × Unit) × (Int × Unit × Unit) × (Int × (Nat × Nat) × Unit) × (List Near) × Unit, .cons 0 (.lst En) (.cons 2 (.int .i64) (.cons 7 (.sl 0 1) (.cons 12 (.num .i64 1) (.nil)))), .cons (.row (.cons 0 (.ptr 1) (.cons 1 (.ptr 2) (.cons 2 (.ptr 3) (.cons 3 (.ptr 4) (.nil)))))) (.cons (.row (.cons 0 (.int .i64) (.cons 1 (.nilS) (.nil)))) (.cons (.row (.cons 0 (.int .i64) (.cons 1 (.nilS) (.nil)))) (.cons (.row (.cons 0 (.int .i64) (.cons 1 (.nilS) (.nil)))) (.cons (.row (.cons 0 (.int .i64) (.cons 1 (.slq 5 2) (.nil)))) (.cons (.rows En 30) (.nil)))))), R0⟩, ⟨.exit 6, (List Near) × Int × Nat × Unit × Unit, (Unit × Unit × Unit × Unit × Unit) × (Int × Unit × Unit) × (Int × Unit × Unit) × (Int × Unit × Unit) × (Int × Unit × Unit) × Unit, .cons 0 (.lst En) (.cons 2 (.int .i64) (.cons 7 (.sl 0 1) (.cons 12 (.num .i64 1) (.nil)))), .cons (.row (.cons 0 (.ptr 1) (.cons 1 (.ptr 2) (.cons 2 (.ptr 3) (.cons 3 (.ptr 4) (.nil)))))) (.cons (.row (.cons 0 (.int .i64) (.cons 1 (.nilS) (.nil)))) (.cons (.row (.cons 0 (.int .i64) (.cons 1 (.nilS) (.nil)))) (.cons (.row (.cons 0 (.int .i64) (.cons 1 (.nilS) (.nil)))) (.cons (.row (.cons 0 (.int .i64) (.cons 1 (.nilS) (.nil)))) (.nil))))), R1⟩]

theorem mb11Form (l : List Near) (k : Int) (s : Nat) (x : List Near) (j : Int) (k1 : Int) (k2 : Int) (k3 : Int) (k4 : Int) (h4 : Nat × Nat) (m4 : List Near) (N : mb11Z → Prop) (R0 : mb11Z → ((List Near) × Int × Nat × Unit × Unit) → ((Unit × Unit × Unit × Unit × Unit) × (Int × Unit × Unit) × (Int × Unit × Unit) × (Int × Unit × Unit) × (Int × (Nat × Nat) × Unit) × (List Near) × Unit) → Prop) (R1 : mb11Z → ((List Near) × Int × Nat × Unit × Unit) → ((Unit × Unit × Unit × Unit × Unit) × (Int × Unit × Unit) × (Int × Unit × Unit) × (Int × Unit × Unit) × (Int × Unit × Unit) × Unit) → Prop) : ((runW Try.prog (KLS [(14, addK)] [] 30) 100).code none 4 122 (loopBody Try.prog 4 26) (mkT (mb11Sl.av id (l, (k, (s, ((), (x, (j, ())))))))) [] (stL false (mb11Bl.obs id (((), ((), ((), ((), ())))), ((k1, ((), ())), ((k2, ((), ())), ((k3, ((), ())), ((k4, (h4, ())), (m4, ())))))))) (postL 0 mb11Fs (mb11Alts R0 R1) ((l, (k, (s, ((), (x, (j, ())))))), (((), ((), ((), ((), ())))), ((k1, ((), ())), ((k2, ((), ())), ((k3, ((), ())), ((k4, (h4, ())), (m4, ()))))))) N)) =
  ( ifp (leInt (0 : Int) j) (idxOk (3 : Int) s ∧ idxOk j x.length ∧ ∃ (x_1 : Int), nth (((natOf j).mul (2 : Nat)).add (0 : Nat)) (List.flatMap En.f x) = some
  (AV.int IntKind.i64 x_1) ∧ ∃ (x_2 : Int), nth (((natOf j).mul (2 : Nat)).add (1 : Nat)) (List.flatMap En.f x) = some (AV.int IntKind.i64 x_2) ∧ ((∃ (a : Near),
  AV.agg [AV.int IntKind.i64 x_1, AV.int IntKind.i64 x_2] = AV.agg [AV.int IntKind.i64 a.fst, AV.int IntKind.i64 a.snd.fst] ∧ ∃ l_1, FE m4 l_1 ∧ true = true ∧
  add1Pre (((), a, ()), (k4, (h4.fst, h4.snd), ()), l_1, ()) ∧ (∀ c d, add1R0 (((), a, ()), (k4, (h4.fst, h4.snd), ()), l_1, ()) c d → True ∧ True ∧ True ∧ ((∃
  l_2, VW l l_2 ∧ ∃ l, VW x l ∧ ∃ l_3, FE d.2.1 l_3 ∧ true = true ∧ N ((l_2, k, s, (), l, wrapF IntKind.i64 (j.sub (1 : Int)), ()), ((), (), (), (), ()), (k1,
  (), ()), (k2, (), ()), (k3, (), ()), (d.1.1, (d.1.2.1.fst, d.1.2.1.snd), ()), l_3, ())) ∨ ∃ l_2, VW l l_2 ∧ ∃ l, VW x l ∧ False)) ∧ True) ∨ ∃ (a : Near),
  AV.agg [AV.int IntKind.i64 x_1, AV.int IntKind.i64 x_2] = AV.agg [AV.int IntKind.i64 a.fst, AV.int IntKind.i64 a.snd.fst] ∧ False)) ((True ∧ ∃ l_1, VW l l_1 ∧
  ∃ l_2, FE m4 l_2 ∧ true = true ∧ R0 ((l, k, s, (), x, j, ()), ((), (), (), (), ()), (k1, (), ()), (k2, (), ()), (k3, (), ()), (k4, h4, ()), m4, ()) (l_1, k, s,
  (), ()) (((), (), (), (), ()), (k1, (), ()), (k2, (), ()), (k3, (), ()), (k4, (h4.fst, h4.snd), ()), l_2, ())) ∨ True ∧ ∃ l_1, VW l l_1 ∧ False)) := by kernel_rfl

theorem mb11Form0 (l : List Near) (k : Int) (s : Nat) (x : List Near) (j : Int) (k1 : Int) (k2 : Int) (k3 : Int) (k4 : Int) (N : mb11Z → Prop) (R0 : mb11Z → ((List Near) × Int × Nat × Unit × Unit) → ((Unit × Unit × Unit × Unit × Unit) × (Int × Unit × Unit) × (Int × Unit × Unit) × (Int × Unit × Unit) × (Int × (Nat × Nat) × Unit) × (List Near) × Unit) → Prop) (R1 : mb11Z → ((List Near) × Int × Nat × Unit × Unit) → ((Unit × Unit × Unit × Unit × Unit) × (Int × Unit × Unit) × (Int × Unit × Unit) × (Int × Unit × Unit) × (Int × Unit × Unit) × Unit) → Prop) : ((runW Try.prog (KLS [(14, addK)] [] 30) 100).code none 4 122 (loopBody Try.prog 4 26) (mkT (mb11Sl0.av id (l, (k, (s, ((), (x, (j, ())))))))) [] (stL false (mb11Bl0.obs id (((), ((), ((), ((), ())))), ((k1, ((), ())), ((k2, ((), ())), ((k3, ((), ())), ((k4, ((), ())), ()))))))) (postL 0 mb11Fs (mb11Alts R0 R1) (mb11Z0 (l, (k, (s, ((), (x, (j, ())))))) (((), ((), ((), ((), ())))), ((k1, ((), ())), ((k2, ((), ())), ((k3, ((), ())), ((k4, ((), ())), ())))))) N)) =
  ( ifp (leInt (0 : Int) j) (idxOk (3 : Int) s ∧ idxOk j x.length ∧ ∃ (x_1 : Int), nth (((natOf j).mul (2 : Nat)).add (0 : Nat)) (List.flatMap En.f x) = some
  (AV.int IntKind.i64 x_1) ∧ ∃ (x_2 : Int), nth (((natOf j).mul (2 : Nat)).add (1 : Nat)) (List.flatMap En.f x) = some (AV.int IntKind.i64 x_2) ∧ ((∃ (a : Near),
  AV.agg [AV.int IntKind.i64 x_1, AV.int IntKind.i64 x_2] = AV.agg [AV.int IntKind.i64 a.fst, AV.int IntKind.i64 a.snd.fst] ∧ False) ∨ ∃ (a : Near), AV.agg
  [AV.int IntKind.i64 x_1, AV.int IntKind.i64 x_2] = AV.agg [AV.int IntKind.i64 a.fst, AV.int IntKind.i64 a.snd.fst] ∧ true = true ∧ add0Pre (((), a, ()), (k4,
  (), ()), ()) ∧ (∀ c d, add0R0 (((), a, ()), (k4, (), ()), ()) c d → True ∧ True ∧ True ∧ ((∃ l_1, VW l l_1 ∧ ∃ l, VW x l ∧ False) ∨ ∃ l_1, VW l l_1 ∧ ∃ l, VW x
  l ∧ true = true ∧ N ((l_1, k, s, (), l, wrapF IntKind.i64 (j.sub (1 : Int)), ()), ((), (), (), (), ()), (k1, (), ()), (k2, (), ()), (k3, (), ()), (d.1.1, ((0 :
  Nat), (0 : Nat)), ()), [], ()))) ∧ (∀ c d, add0R1 (((), a, ()), (k4, (), ()), ()) c d → True ∧ True ∧ True ∧ ((∃ l_1, VW l l_1 ∧ ∃ l, VW x l ∧ ∃ l_2, FE d.2.1
  l_2 ∧ true = true ∧ N ((l_1, k, s, (), l, wrapF IntKind.i64 (j.sub (1 : Int)), ()), ((), (), (), (), ()), (k1, (), ()), (k2, (), ()), (k3, (), ()), (d.1.1,
  (d.1.2.1.fst, d.1.2.1.snd), ()), l_2, ())) ∨ ∃ l_1, VW l l_1 ∧ ∃ l, VW x l ∧ False)) ∧ True)) ((True ∧ ∃ l_1, VW l l_1 ∧ False) ∨ True ∧ ∃ l_1, VW l l_1 ∧ true
  = true ∧ R1 ((l, k, s, (), x, j, ()), ((), (), (), (), ()), (k1, (), ()), (k2, (), ()), (k3, (), ()), (k4, ((0 : Nat), (0 : Nat)), ()), [], ()) (l_1, k, s, (),
  ()) (((), (), (), (), ()), (k1, (), ()), (k2, (), ()), (k3, (), ()), (k4, (), ()), ()))) := by kernel_rfl

def mb11Inv : mb11Z → Prop := fun ((l, (k, (s, ((), (x, (j, ())))))), (((), ((), ((), ((), ())))), ((k1, ((), ())), ((k2, ((), ())), ((k3, ((), ())), ((k4, (h4, ())), (m4, ()))))))) => ∃ q : Nat, j = (q : Int) - 1 ∧ q ≤ x.length ∧ x.length ≤ 150 ∧ s = 4 ∧ 0 ≤ k ∧ k ≤ 150 ∧ k1 = k ∧ k2 = k ∧ k3 = k ∧ k4 = k ∧ h4 = (m4.length, m4.length) ∧ ∃ L0, TopOk k m4 (topL k L0)
def mb11Mu : mb11Z → Nat := fun ((l, (k, (s, ((), (x, (j, ())))))), (((), ((), ((), ((), ())))), ((k1, ((), ())), ((k2, ((), ())), ((k3, ((), ())), ((k4, (h4, ())), (m4, ()))))))) => (j + 1).toNat
def mb11R0 : mb11Z → ((List Near) × Int × Nat × Unit × Unit) → ((Unit × Unit × Unit × Unit × Unit) × (Int × Unit × Unit) × (Int × Unit × Unit) × (Int × Unit × Unit) × (Int × (Nat × Nat) × Unit) × (List Near) × Unit) → Prop := fun ((l, (k, (s, ((), (x, (j, ())))))), (((), ((), ((), ((), ())))), ((k1, ((), ())), ((k2, ((), ())), ((k3, ((), ())), ((k4, (h4, ())), (m4, ()))))))) (l2, y, s2, _) (_, (x1, _), (x2, _), (x3, _), (x4, g4, _), n4, _) => l2 = l ∧ y = k ∧ s2 = 4 ∧ x1 = k ∧ x2 = k ∧ x3 = k ∧ x4 = k ∧ g4 = (n4.length, n4.length) ∧ ∀ L0, TopOk k m4 (topL k L0) → TopOk k n4 (topL k (L0 ++ (x.take (j + 1).toNat).reverse))
def mb11R1 : mb11Z → ((List Near) × Int × Nat × Unit × Unit) → ((Unit × Unit × Unit × Unit × Unit) × (Int × Unit × Unit) × (Int × Unit × Unit) × (Int × Unit × Unit) × (Int × Unit × Unit) × Unit) → Prop := fun ((l, (k, (s, ((), (x, (j, ())))))), (((), ((), ((), ((), ())))), ((k1, ((), ())), ((k2, ((), ())), ((k3, ((), ())), ((k4, (h4, ())), (m4, ()))))))) (l2, y, s2, _) (_, (x1, _), (x2, _), (x3, _), (x4, _), _) => l2 = l ∧ y = k ∧ s2 = 4 ∧ x1 = k ∧ x2 = k ∧ x3 = k ∧ x4 = k ∧ ∀ L0, TopOk k m4 (topL k L0) → TopOk k [] (topL k (L0 ++ (x.take (j + 1).toNat).reverse))
noncomputable def mb11C : LoopC := loopC 0 mb11Fs (mb11Alts mb11R0 mb11R1) mb11Inv

theorem mb11Step : stepsOk Try.prog (KLS [(14, addK)] [] 30) 100 4 122 (loopBody Try.prog 4 26) 0 false mb11Fs (mb11Alts mb11R0 mb11R1) mb11Inv mb11Mu ⟨_, _, mb11Sl, mb11Bl, fun x y => (x, y)⟩ := by
  intro x y hz
  obtain ⟨l, k, s, _, x, j, _⟩ := x
  obtain ⟨⟨_, _, _, _, _⟩, ⟨k1, _, _⟩, ⟨k2, _, _⟩, ⟨k3, _, _⟩, ⟨k4, h4, _⟩, m4, _⟩ := y
  refine (mb11Form l k s x j k1 k2 k3 k4 h4 m4 _ _ _).mpr ?_
  obtain ⟨q, hj, hq, hx, hs, k0, kle, q1, q2, q3, q4,  g4, L0, hT⟩ := hz
  obtain rfl : s = 4 := hs
  obtain rfl : k = k1 := q1.symm
  obtain rfl : k = k2 := q2.symm
  obtain rfl : k = k3 := q3.symm
  obtain rfl : k = k4 := q4.symm
  obtain rfl : h4 = (m4.length, m4.length) := g4
  obtain rfl : j = (q : Int) - 1 := hj
  rw [ifp_ge]
  split
  · rename_i h
    obtain ⟨r, rfl⟩ : ∃ r : Nat, q = r + 1 := ⟨q - 1, by omega⟩
    have e : (((r + 1 : Nat) : Int) - 1) = (r : Int) := by omega
    have hrl : r < x.length := by omega
    simp only [e, natOf_nat]
    have hl4 := hT.len
    have hl5 := hT.l
    refine ⟨⟨by decide, by decide⟩, idx_ok hrl, _, nth_near0 hrl, _, nth_near1 hrl, Or.inl ⟨x[r], rfl, m4, rfl, (by first | exact trivial | exact rfl), ⟨rfl, hT.h, by omega, k0⟩, fun c d hr => ?_, trivial⟩⟩
    obtain ⟨b, e4, _⟩ := c
    obtain ⟨⟨x4, g4, _⟩, p4, _⟩ := d
    obtain ⟨he4, hx4, hg4, ha4⟩ := hr
    obtain rfl : k = x4 := hx4.symm
    obtain rfl : g4 = (p4.length, p4.length) := hg4
    repeat (refine And.intro True.intro ?_)
    have ew : wrapF .i64 (Int.sub (r : Int) 1) = (r : Int) - 1 := by rw [wsub (by omega) (by omega)]
    simp only [ew]
    refine Or.inl ⟨l, Wk.refl _, x, Wk.refl _, p4, rfl, (by first | exact trivial | exact rfl), ⟨r, rfl, by omega, hx, rfl, k0, kle, rfl, rfl, rfl, rfl, rfl, L0 ++ [x[r]], hT.top k0 ha4 rfl⟩, ?_, ?_⟩
    · show (((r : Int) - 1) + 1).toNat < (((r : Int)) + 1).toNat; omega
    · refine ⟨?_, ?_, trivial⟩
      · exact fun _ _ hr => by
          obtain ⟨a0, a1, a2, a3, a4, a5, a6, a7, hA⟩ := hr
          refine ⟨a0, a1, a2, a3, a4, a5, a6, a7, fun L1 h1 => ?_⟩
          have := hA (L1 ++ [x[r]]) (h1.top k0 ha4 rfl)
          rw [show (((r : Int) - 1 + 1).toNat) = r by omega, mb_step hrl] at this
          rwa [show ((((r : Int)) + 1).toNat) = r + 1 by omega]
      · exact fun _ _ hr => by
          obtain ⟨a0, a1, a2, a3, a4, a5, a6, hA⟩ := hr
          refine ⟨a0, a1, a2, a3, a4, a5, a6, fun L1 h1 => ?_⟩
          have := hA (L1 ++ [x[r]]) (h1.top k0 ha4 rfl)
          rw [show (((r : Int) - 1 + 1).toNat) = r by omega, mb_step hrl] at this
          rwa [show ((((r : Int)) + 1).toNat) = r + 1 by omega]
  · rename_i h
    obtain rfl : q = 0 := by omega
    refine Or.inl ⟨trivial, l, Wk.refl _, m4, rfl, (by first | exact trivial | exact rfl), rfl, rfl, rfl, rfl, rfl, rfl, rfl, rfl, fun L1 h1 => ?_⟩
    show TopOk k _ (topL k (L1 ++ (x.take 0).reverse))
    rw [List.take_zero, List.reverse_nil, List.append_nil]
    exact h1
theorem mb11Step0 : stepsOk Try.prog (KLS [(14, addK)] [] 30) 100 4 122 (loopBody Try.prog 4 26) 0 false mb11Fs (mb11Alts mb11R0 mb11R1) mb11Inv mb11Mu ⟨_, _, mb11Sl0, mb11Bl0, mb11Z0⟩ := by
  intro x y hz
  obtain ⟨l, k, s, _, x, j, _⟩ := x
  obtain ⟨⟨_, _, _, _, _⟩, ⟨k1, _, _⟩, ⟨k2, _, _⟩, ⟨k3, _, _⟩, ⟨k4, _, _⟩, _⟩ := y
  refine (mb11Form0 l k s x j k1 k2 k3 k4 _ _ _).mpr ?_
  obtain ⟨q, hj, hq, hx, hs, k0, kle, q1, q2, q3, q4,  g4, L0, hT⟩ := hz
  obtain rfl : s = 4 := hs
  obtain rfl : k = k1 := q1.symm
  obtain rfl : k = k2 := q2.symm
  obtain rfl : k = k3 := q3.symm
  obtain rfl : k = k4 := q4.symm
  obtain rfl : j = (q : Int) - 1 := hj
  rw [ifp_ge]
  split
  · rename_i h
    obtain ⟨r, rfl⟩ : ∃ r : Nat, q = r + 1 := ⟨q - 1, by omega⟩
    have e : (((r + 1 : Nat) : Int) - 1) = (r : Int) := by omega
    have hrl : r < x.length := by omega
    simp only [e, natOf_nat]
    refine ⟨⟨by decide, by decide⟩, idx_ok hrl, _, nth_near0 hrl, _, nth_near1 hrl, Or.inr ⟨x[r], rfl, (by first | exact trivial | exact rfl), k0, fun c d hr => ?_, fun c d hr => ?_, trivial⟩⟩
    · obtain ⟨b, e4, _⟩ := c
      obtain ⟨⟨x4, _⟩, _⟩ := d
      obtain ⟨hb4, he4, hx4, hz4⟩ := hr
      obtain rfl : k = x4 := hx4.symm
      have hz4 : k = 0 := hz4
      have ha4 := add_0 (n := x[r]) hz4
      repeat (refine And.intro True.intro ?_)
      have ew : wrapF .i64 (Int.sub (r : Int) 1) = (r : Int) - 1 := by rw [wsub (by omega) (by omega)]
      simp only [ew]
      refine Or.inr ⟨l, Wk.refl _, x, Wk.refl _, (by first | exact trivial | exact rfl), ⟨r, rfl, by omega, hx, rfl, k0, kle, rfl, rfl, rfl, rfl, rfl, L0 ++ [x[r]], hT.top k0 ha4 rfl⟩, ?_, ?_⟩
      · show (((r : Int) - 1) + 1).toNat < (((r : Int)) + 1).toNat; omega
      · refine ⟨?_, ?_, trivial⟩
        · exact fun _ _ hr => by
            obtain ⟨a0, a1, a2, a3, a4, a5, a6, a7, hA⟩ := hr
            refine ⟨a0, a1, a2, a3, a4, a5, a6, a7, fun L1 h1 => ?_⟩
            have := hA (L1 ++ [x[r]]) (h1.top k0 ha4 rfl)
            rw [show (((r : Int) - 1 + 1).toNat) = r by omega, mb_step hrl] at this
            rwa [show ((((r : Int)) + 1).toNat) = r + 1 by omega]
        · exact fun _ _ hr => by
            obtain ⟨a0, a1, a2, a3, a4, a5, a6, hA⟩ := hr
            refine ⟨a0, a1, a2, a3, a4, a5, a6, fun L1 h1 => ?_⟩
            have := hA (L1 ++ [x[r]]) (h1.top k0 ha4 rfl)
            rw [show (((r : Int) - 1 + 1).toNat) = r by omega, mb_step hrl] at this
            rwa [show ((((r : Int)) + 1).toNat) = r + 1 by omega]
    · obtain ⟨b, e4, _⟩ := c
      obtain ⟨⟨x4, g4, _⟩, p4, _⟩ := d
      obtain ⟨hb4, he4, hx4, hz4, hg4, hp4⟩ := hr
      obtain rfl : k = x4 := hx4.symm
      obtain rfl : p4 = [x[r]] := hp4
      obtain rfl : g4 = (1, 1) := hg4
      have hz4 : 0 < k := hz4
      have ha4 := add_1 (n := x[r]) hz4
      repeat (refine And.intro True.intro ?_)
      have ew : wrapF .i64 (Int.sub (r : Int) 1) = (r : Int) - 1 := by rw [wsub (by omega) (by omega)]
      simp only [ew]
      refine Or.inl ⟨l, Wk.refl _, x, Wk.refl _, [x[r]], rfl, (by first | exact trivial | exact rfl), ⟨r, rfl, by omega, hx, rfl, k0, kle, rfl, rfl, rfl, rfl, rfl, L0 ++ [x[r]], hT.top k0 ha4 rfl⟩, ?_, ?_⟩
      · show (((r : Int) - 1) + 1).toNat < (((r : Int)) + 1).toNat; omega
      · refine ⟨?_, ?_, trivial⟩
        · exact fun _ _ hr => by
            obtain ⟨a0, a1, a2, a3, a4, a5, a6, a7, hA⟩ := hr
            refine ⟨a0, a1, a2, a3, a4, a5, a6, a7, fun L1 h1 => ?_⟩
            have := hA (L1 ++ [x[r]]) (h1.top k0 ha4 rfl)
            rw [show (((r : Int) - 1 + 1).toNat) = r by omega, mb_step hrl] at this
            rwa [show ((((r : Int)) + 1).toNat) = r + 1 by omega]
        · exact fun _ _ hr => by
            obtain ⟨a0, a1, a2, a3, a4, a5, a6, hA⟩ := hr
            refine ⟨a0, a1, a2, a3, a4, a5, a6, fun L1 h1 => ?_⟩
            have := hA (L1 ++ [x[r]]) (h1.top k0 ha4 rfl)
            rw [show (((r : Int) - 1 + 1).toNat) = r by omega, mb_step hrl] at this
            rwa [show ((((r : Int)) + 1).toNat) = r + 1 by omega]
  · rename_i h
    obtain rfl : q = 0 := by omega
    refine Or.inr ⟨trivial, l, Wk.refl _, (by first | exact trivial | exact rfl), rfl, rfl, rfl, rfl, rfl, rfl, rfl, fun L1 h1 => ?_⟩
    show TopOk k _ (topL k (L1 ++ (x.take 0).reverse))
    rw [List.take_zero, List.reverse_nil, List.append_nil]
    exact h1
theorem mb11Ok : LoopOk Try.prog 4 122 (.loop (loopBody Try.prog 4 26)) mb11C := loop_ok mb11Mu mixed (KLS_ok (cc_cons addCc (cc_nil))) rfl (steps_cons mb11Step (steps_cons mb11Step0 (steps_nil)))

/-! The loop mb12 of wayfinder/wayfinderlaw04.RankMerges. -/
abbrev mb12Z := ((List Near) × Int × Nat × Unit × (List Near) × Int × Unit) × ((Unit × Unit × Unit × Unit × Unit) × (Int × Unit × Unit) × (Int × Unit × Unit) × (Int × Unit × Unit) × (Int × (Nat × Nat) × Unit) × (List Near) × Unit)
noncomputable def mb12Sl : Tel ((List Near) × Int × Nat × Unit × (List Near) × Int × Unit) := .cons 0 (.lst En) (.cons 2 (.int .i64) (.cons 7 (.sl 0 1) (.cons 12 (.num .i64 2) (.cons 13 (.lst En) (.cons 14 (.int .i64) (.nil))))))
noncomputable def mb12Bl : BTel ((Unit × Unit × Unit × Unit × Unit) × (Int × Unit × Unit) × (Int × Unit × Unit) × (Int × Unit × Unit) × (Int × (Nat × Nat) × Unit) × (List Near) × Unit) := .cons (.row (.cons 0 (.ptr 1) (.cons 1 (.ptr 2) (.cons 2 (.ptr 3) (.cons 3 (.ptr 4) (.nil)))))) (.cons (.row (.cons 0 (.int .i64) (.cons 1 (.nilS) (.nil)))) (.cons (.row (.cons 0 (.int .i64) (.cons 1 (.nilS) (.nil)))) (.cons (.row (.cons 0 (.int .i64) (.cons 1 (.nilS) (.nil)))) (.cons (.row (.cons 0 (.int .i64) (.cons 1 (.slq 5 2) (.nil)))) (.cons (.rows En 30) (.nil))))))
noncomputable def mb12Sl0 : Tel ((List Near) × Int × Nat × Unit × (List Near) × Int × Unit) := .cons 0 (.lst En) (.cons 2 (.int .i64) (.cons 7 (.sl 0 1) (.cons 12 (.num .i64 2) (.cons 13 (.lst En) (.cons 14 (.int .i64) (.nil))))))
noncomputable def mb12Bl0 : BTel ((Unit × Unit × Unit × Unit × Unit) × (Int × Unit × Unit) × (Int × Unit × Unit) × (Int × Unit × Unit) × (Int × Unit × Unit) × Unit) := .cons (.row (.cons 0 (.ptr 1) (.cons 1 (.ptr 2) (.cons 2 (.ptr 3) (.cons 3 (.ptr 4) (.nil)))))) (.cons (.row (.cons 0 (.int .i64) (.cons 1 (.nilS) (.nil)))) (.cons (.row (.cons 0 (.int .i64) (.cons 1 (.nilS) (.nil)))) (.cons (.row (.cons 0 (.int .i64) (.cons 1 (.nilS) (.nil)))) (.cons (.row (.cons 0 (.int .i64) (.cons 1 (.nilS) (.nil)))) (.nil)))))
noncomputable def mb12Z0 : ((List Near) × Int × Nat × Unit × (List Near) × Int × Unit) → ((Unit × Unit × Unit × Unit × Unit) × (Int × Unit × Unit) × (Int × Unit × Unit) × (Int × Unit × Unit) × (Int × Unit × Unit) × Unit) → mb12Z := fun (l, (k, (s, ((), (x, (j, ())))))) (((), ((), ((), ((), ())))), ((k1, ((), ())), ((k2, ((), ())), ((k3, ((), ())), ((k4, ((), ())), ()))))) => ((l, (k, (s, ((), (x, (j, ())))))), (((), ((), ((), ((), ())))), ((k1, ((), ())), ((k2, ((), ())), ((k3, ((), ())), ((k4, ((0, 0), ())), ([], ())))))))
noncomputable def mb12Fs : List (LForm mb12Z) := [⟨_, _, mb12Sl, mb12Bl, fun x y => (x, y)⟩, ⟨_, _, mb12Sl0, mb12Bl0, mb12Z0⟩]
noncomputable def mb12Alts (R0 : mb12Z → ((List Near) × Int × Nat × Unit × Unit) → ((Unit × Unit × Unit × Unit × Unit) × (Int × Unit × Unit) × (Int × Unit × Unit) × (Int × Unit × Unit) × (Int × (Nat × Nat) × Unit) × (List Near) × Unit) → Prop) (R1 : mb12Z → ((List Near) × Int × Nat × Unit × Unit) → ((Unit × Unit × Unit × Unit × Unit) × (Int × Unit × Unit) × (Int × Unit × Unit) × (Int × Unit × Unit) × (Int × Unit × Unit) × Unit) → Prop) : List (Alt mb12Z) := [⟨.exit 6, (List Near) × Int × Nat × Unit × Unit, (Unit × Unit × Unit × Unit × Unit) × (Int × Unit × Unit) × (Int × Unit × Unit) × (Int × Unit × Unit) × (Int × (Nat × Nat) × Unit) × (List Near) × Unit, .cons 0 (.lst En) (.cons 2 (.int .i64) (.cons 7 (.sl 0 1) (.cons 12 (.num .i64 2) (.nil)))), .cons (.row (.cons 0 (.ptr 1) (.cons 1 (.ptr 2) (.cons 2 (.ptr 3) (.cons 3 (.ptr 4) (.nil)))))) (.cons (.row (.cons 0 (.int .i64) (.cons 1 (.nilS) (.nil)))) (.cons (.row (.cons 0 (.int .i64) (.cons 1 (.nilS) (.nil)))) (.cons (.row (.cons 0 (.int .i64) (.cons 1 (.nilS) (.nil)))) (.cons (.row (.cons 0 (.int .i64) (.cons 1 (.slq 5 2) (.nil)))) (.cons (.rows En 30) (.nil)))))), R0⟩, ⟨.exit 6, (List Near) × Int × Nat × Unit × Unit, (Unit × Unit × Unit × Unit × Unit) × (Int × Unit × Unit) × (Int × Unit × Unit) × (Int × Unit × Unit) × (Int × Unit × Unit) × Unit, .cons 0 (.lst En) (.cons 2 (.int .i64) (.cons 7 (.sl 0 1) (.cons 12 (.num .i64 2) (.nil)))), .cons (.row (.cons 0 (.ptr 1) (.cons 1 (.ptr 2) (.cons 2 (.ptr 3) (.cons 3 (.ptr 4) (.nil)))))) (.cons (.row (.cons 0 (.int .i64) (.cons 1 (.nilS) (.nil)))) (.cons (.row (.cons 0 (.int .i64) (.cons 1 (.nilS) (.nil)))) (.cons (.row (.cons 0 (.int .i64) (.cons 1 (.nilS) (.nil)))) (.cons (.row (.cons 0 (.int .i64) (.cons 1 (.nilS) (.nil)))) (.nil))))), R1⟩]

theorem mb12Form (l : List Near) (k : Int) (s : Nat) (x : List Near) (j : Int) (k1 : Int) (k2 : Int) (k3 : Int) (k4 : Int) (h4 : Nat × Nat) (m4 : List Near) (N : mb12Z → Prop) (R0 : mb12Z → ((List Near) × Int × Nat × Unit × Unit) → ((Unit × Unit × Unit × Unit × Unit) × (Int × Unit × Unit) × (Int × Unit × Unit) × (Int × Unit × Unit) × (Int × (Nat × Nat) × Unit) × (List Near) × Unit) → Prop) (R1 : mb12Z → ((List Near) × Int × Nat × Unit × Unit) → ((Unit × Unit × Unit × Unit × Unit) × (Int × Unit × Unit) × (Int × Unit × Unit) × (Int × Unit × Unit) × (Int × Unit × Unit) × Unit) → Prop) : ((runW Try.prog (KLS [(14, addK)] [] 30) 100).code none 4 122 (loopBody Try.prog 4 26) (mkT (mb12Sl.av id (l, (k, (s, ((), (x, (j, ())))))))) [] (stL false (mb12Bl.obs id (((), ((), ((), ((), ())))), ((k1, ((), ())), ((k2, ((), ())), ((k3, ((), ())), ((k4, (h4, ())), (m4, ())))))))) (postL 0 mb12Fs (mb12Alts R0 R1) ((l, (k, (s, ((), (x, (j, ())))))), (((), ((), ((), ((), ())))), ((k1, ((), ())), ((k2, ((), ())), ((k3, ((), ())), ((k4, (h4, ())), (m4, ()))))))) N)) =
  ( ifp (leInt (0 : Int) j) (idxOk (3 : Int) s ∧ idxOk j x.length ∧ ∃ (x_1 : Int), nth (((natOf j).mul (2 : Nat)).add (0 : Nat)) (List.flatMap En.f x) = some
  (AV.int IntKind.i64 x_1) ∧ ∃ (x_2 : Int), nth (((natOf j).mul (2 : Nat)).add (1 : Nat)) (List.flatMap En.f x) = some (AV.int IntKind.i64 x_2) ∧ ((∃ (a : Near),
  AV.agg [AV.int IntKind.i64 x_1, AV.int IntKind.i64 x_2] = AV.agg [AV.int IntKind.i64 a.fst, AV.int IntKind.i64 a.snd.fst] ∧ ∃ l_1, FE m4 l_1 ∧ true = true ∧
  add1Pre (((), a, ()), (k4, (h4.fst, h4.snd), ()), l_1, ()) ∧ (∀ c d, add1R0 (((), a, ()), (k4, (h4.fst, h4.snd), ()), l_1, ()) c d → True ∧ True ∧ True ∧ ((∃
  l_2, VW l l_2 ∧ ∃ l, VW x l ∧ ∃ l_3, FE d.2.1 l_3 ∧ true = true ∧ N ((l_2, k, s, (), l, wrapF IntKind.i64 (j.sub (1 : Int)), ()), ((), (), (), (), ()), (k1,
  (), ()), (k2, (), ()), (k3, (), ()), (d.1.1, (d.1.2.1.fst, d.1.2.1.snd), ()), l_3, ())) ∨ ∃ l_2, VW l l_2 ∧ ∃ l, VW x l ∧ False)) ∧ True) ∨ ∃ (a : Near),
  AV.agg [AV.int IntKind.i64 x_1, AV.int IntKind.i64 x_2] = AV.agg [AV.int IntKind.i64 a.fst, AV.int IntKind.i64 a.snd.fst] ∧ False)) ((True ∧ ∃ l_1, VW l l_1 ∧
  ∃ l_2, FE m4 l_2 ∧ true = true ∧ R0 ((l, k, s, (), x, j, ()), ((), (), (), (), ()), (k1, (), ()), (k2, (), ()), (k3, (), ()), (k4, h4, ()), m4, ()) (l_1, k, s,
  (), ()) (((), (), (), (), ()), (k1, (), ()), (k2, (), ()), (k3, (), ()), (k4, (h4.fst, h4.snd), ()), l_2, ())) ∨ True ∧ ∃ l_1, VW l l_1 ∧ False)) := by kernel_rfl

theorem mb12Form0 (l : List Near) (k : Int) (s : Nat) (x : List Near) (j : Int) (k1 : Int) (k2 : Int) (k3 : Int) (k4 : Int) (N : mb12Z → Prop) (R0 : mb12Z → ((List Near) × Int × Nat × Unit × Unit) → ((Unit × Unit × Unit × Unit × Unit) × (Int × Unit × Unit) × (Int × Unit × Unit) × (Int × Unit × Unit) × (Int × (Nat × Nat) × Unit) × (List Near) × Unit) → Prop) (R1 : mb12Z → ((List Near) × Int × Nat × Unit × Unit) → ((Unit × Unit × Unit × Unit × Unit) × (Int × Unit × Unit) × (Int × Unit × Unit) × (Int × Unit × Unit) × (Int × Unit × Unit) × Unit) → Prop) : ((runW Try.prog (KLS [(14, addK)] [] 30) 100).code none 4 122 (loopBody Try.prog 4 26) (mkT (mb12Sl0.av id (l, (k, (s, ((), (x, (j, ())))))))) [] (stL false (mb12Bl0.obs id (((), ((), ((), ((), ())))), ((k1, ((), ())), ((k2, ((), ())), ((k3, ((), ())), ((k4, ((), ())), ()))))))) (postL 0 mb12Fs (mb12Alts R0 R1) (mb12Z0 (l, (k, (s, ((), (x, (j, ())))))) (((), ((), ((), ((), ())))), ((k1, ((), ())), ((k2, ((), ())), ((k3, ((), ())), ((k4, ((), ())), ())))))) N)) =
  ( ifp (leInt (0 : Int) j) (idxOk (3 : Int) s ∧ idxOk j x.length ∧ ∃ (x_1 : Int), nth (((natOf j).mul (2 : Nat)).add (0 : Nat)) (List.flatMap En.f x) = some
  (AV.int IntKind.i64 x_1) ∧ ∃ (x_2 : Int), nth (((natOf j).mul (2 : Nat)).add (1 : Nat)) (List.flatMap En.f x) = some (AV.int IntKind.i64 x_2) ∧ ((∃ (a : Near),
  AV.agg [AV.int IntKind.i64 x_1, AV.int IntKind.i64 x_2] = AV.agg [AV.int IntKind.i64 a.fst, AV.int IntKind.i64 a.snd.fst] ∧ False) ∨ ∃ (a : Near), AV.agg
  [AV.int IntKind.i64 x_1, AV.int IntKind.i64 x_2] = AV.agg [AV.int IntKind.i64 a.fst, AV.int IntKind.i64 a.snd.fst] ∧ true = true ∧ add0Pre (((), a, ()), (k4,
  (), ()), ()) ∧ (∀ c d, add0R0 (((), a, ()), (k4, (), ()), ()) c d → True ∧ True ∧ True ∧ ((∃ l_1, VW l l_1 ∧ ∃ l, VW x l ∧ False) ∨ ∃ l_1, VW l l_1 ∧ ∃ l, VW x
  l ∧ true = true ∧ N ((l_1, k, s, (), l, wrapF IntKind.i64 (j.sub (1 : Int)), ()), ((), (), (), (), ()), (k1, (), ()), (k2, (), ()), (k3, (), ()), (d.1.1, ((0 :
  Nat), (0 : Nat)), ()), [], ()))) ∧ (∀ c d, add0R1 (((), a, ()), (k4, (), ()), ()) c d → True ∧ True ∧ True ∧ ((∃ l_1, VW l l_1 ∧ ∃ l, VW x l ∧ ∃ l_2, FE d.2.1
  l_2 ∧ true = true ∧ N ((l_1, k, s, (), l, wrapF IntKind.i64 (j.sub (1 : Int)), ()), ((), (), (), (), ()), (k1, (), ()), (k2, (), ()), (k3, (), ()), (d.1.1,
  (d.1.2.1.fst, d.1.2.1.snd), ()), l_2, ())) ∨ ∃ l_1, VW l l_1 ∧ ∃ l, VW x l ∧ False)) ∧ True)) ((True ∧ ∃ l_1, VW l l_1 ∧ False) ∨ True ∧ ∃ l_1, VW l l_1 ∧ true
  = true ∧ R1 ((l, k, s, (), x, j, ()), ((), (), (), (), ()), (k1, (), ()), (k2, (), ()), (k3, (), ()), (k4, ((0 : Nat), (0 : Nat)), ()), [], ()) (l_1, k, s, (),
  ()) (((), (), (), (), ()), (k1, (), ()), (k2, (), ()), (k3, (), ()), (k4, (), ()), ()))) := by kernel_rfl

def mb12Inv : mb12Z → Prop := fun ((l, (k, (s, ((), (x, (j, ())))))), (((), ((), ((), ((), ())))), ((k1, ((), ())), ((k2, ((), ())), ((k3, ((), ())), ((k4, (h4, ())), (m4, ()))))))) => ∃ q : Nat, j = (q : Int) - 1 ∧ q ≤ x.length ∧ x.length ≤ 150 ∧ s = 4 ∧ 0 ≤ k ∧ k ≤ 150 ∧ k1 = k ∧ k2 = k ∧ k3 = k ∧ k4 = k ∧ h4 = (m4.length, m4.length) ∧ ∃ L0, TopOk k m4 (topL k L0)
def mb12Mu : mb12Z → Nat := fun ((l, (k, (s, ((), (x, (j, ())))))), (((), ((), ((), ((), ())))), ((k1, ((), ())), ((k2, ((), ())), ((k3, ((), ())), ((k4, (h4, ())), (m4, ()))))))) => (j + 1).toNat
def mb12R0 : mb12Z → ((List Near) × Int × Nat × Unit × Unit) → ((Unit × Unit × Unit × Unit × Unit) × (Int × Unit × Unit) × (Int × Unit × Unit) × (Int × Unit × Unit) × (Int × (Nat × Nat) × Unit) × (List Near) × Unit) → Prop := fun ((l, (k, (s, ((), (x, (j, ())))))), (((), ((), ((), ((), ())))), ((k1, ((), ())), ((k2, ((), ())), ((k3, ((), ())), ((k4, (h4, ())), (m4, ()))))))) (l2, y, s2, _) (_, (x1, _), (x2, _), (x3, _), (x4, g4, _), n4, _) => l2 = l ∧ y = k ∧ s2 = 4 ∧ x1 = k ∧ x2 = k ∧ x3 = k ∧ x4 = k ∧ g4 = (n4.length, n4.length) ∧ ∀ L0, TopOk k m4 (topL k L0) → TopOk k n4 (topL k (L0 ++ (x.take (j + 1).toNat).reverse))
def mb12R1 : mb12Z → ((List Near) × Int × Nat × Unit × Unit) → ((Unit × Unit × Unit × Unit × Unit) × (Int × Unit × Unit) × (Int × Unit × Unit) × (Int × Unit × Unit) × (Int × Unit × Unit) × Unit) → Prop := fun ((l, (k, (s, ((), (x, (j, ())))))), (((), ((), ((), ((), ())))), ((k1, ((), ())), ((k2, ((), ())), ((k3, ((), ())), ((k4, (h4, ())), (m4, ()))))))) (l2, y, s2, _) (_, (x1, _), (x2, _), (x3, _), (x4, _), _) => l2 = l ∧ y = k ∧ s2 = 4 ∧ x1 = k ∧ x2 = k ∧ x3 = k ∧ x4 = k ∧ ∀ L0, TopOk k m4 (topL k L0) → TopOk k [] (topL k (L0 ++ (x.take (j + 1).toNat).reverse))
noncomputable def mb12C : LoopC := loopC 0 mb12Fs (mb12Alts mb12R0 mb12R1) mb12Inv

theorem mb12Step : stepsOk Try.prog (KLS [(14, addK)] [] 30) 100 4 122 (loopBody Try.prog 4 26) 0 false mb12Fs (mb12Alts mb12R0 mb12R1) mb12Inv mb12Mu ⟨_, _, mb12Sl, mb12Bl, fun x y => (x, y)⟩ := by
  intro x y hz
  obtain ⟨l, k, s, _, x, j, _⟩ := x
  obtain ⟨⟨_, _, _, _, _⟩, ⟨k1, _, _⟩, ⟨k2, _, _⟩, ⟨k3, _, _⟩, ⟨k4, h4, _⟩, m4, _⟩ := y
  refine (mb12Form l k s x j k1 k2 k3 k4 h4 m4 _ _ _).mpr ?_
  obtain ⟨q, hj, hq, hx, hs, k0, kle, q1, q2, q3, q4,  g4, L0, hT⟩ := hz
  obtain rfl : s = 4 := hs
  obtain rfl : k = k1 := q1.symm
  obtain rfl : k = k2 := q2.symm
  obtain rfl : k = k3 := q3.symm
  obtain rfl : k = k4 := q4.symm
  obtain rfl : h4 = (m4.length, m4.length) := g4
  obtain rfl : j = (q : Int) - 1 := hj
  rw [ifp_ge]
  split
  · rename_i h
    obtain ⟨r, rfl⟩ : ∃ r : Nat, q = r + 1 := ⟨q - 1, by omega⟩
    have e : (((r + 1 : Nat) : Int) - 1) = (r : Int) := by omega
    have hrl : r < x.length := by omega
    simp only [e, natOf_nat]
    have hl4 := hT.len
    have hl5 := hT.l
    refine ⟨⟨by decide, by decide⟩, idx_ok hrl, _, nth_near0 hrl, _, nth_near1 hrl, Or.inl ⟨x[r], rfl, m4, rfl, (by first | exact trivial | exact rfl), ⟨rfl, hT.h, by omega, k0⟩, fun c d hr => ?_, trivial⟩⟩
    obtain ⟨b, e4, _⟩ := c
    obtain ⟨⟨x4, g4, _⟩, p4, _⟩ := d
    obtain ⟨he4, hx4, hg4, ha4⟩ := hr
    obtain rfl : k = x4 := hx4.symm
    obtain rfl : g4 = (p4.length, p4.length) := hg4
    repeat (refine And.intro True.intro ?_)
    have ew : wrapF .i64 (Int.sub (r : Int) 1) = (r : Int) - 1 := by rw [wsub (by omega) (by omega)]
    simp only [ew]
    refine Or.inl ⟨l, Wk.refl _, x, Wk.refl _, p4, rfl, (by first | exact trivial | exact rfl), ⟨r, rfl, by omega, hx, rfl, k0, kle, rfl, rfl, rfl, rfl, rfl, L0 ++ [x[r]], hT.top k0 ha4 rfl⟩, ?_, ?_⟩
    · show (((r : Int) - 1) + 1).toNat < (((r : Int)) + 1).toNat; omega
    · refine ⟨?_, ?_, trivial⟩
      · exact fun _ _ hr => by
          obtain ⟨a0, a1, a2, a3, a4, a5, a6, a7, hA⟩ := hr
          refine ⟨a0, a1, a2, a3, a4, a5, a6, a7, fun L1 h1 => ?_⟩
          have := hA (L1 ++ [x[r]]) (h1.top k0 ha4 rfl)
          rw [show (((r : Int) - 1 + 1).toNat) = r by omega, mb_step hrl] at this
          rwa [show ((((r : Int)) + 1).toNat) = r + 1 by omega]
      · exact fun _ _ hr => by
          obtain ⟨a0, a1, a2, a3, a4, a5, a6, hA⟩ := hr
          refine ⟨a0, a1, a2, a3, a4, a5, a6, fun L1 h1 => ?_⟩
          have := hA (L1 ++ [x[r]]) (h1.top k0 ha4 rfl)
          rw [show (((r : Int) - 1 + 1).toNat) = r by omega, mb_step hrl] at this
          rwa [show ((((r : Int)) + 1).toNat) = r + 1 by omega]
  · rename_i h
    obtain rfl : q = 0 := by omega
    refine Or.inl ⟨trivial, l, Wk.refl _, m4, rfl, (by first | exact trivial | exact rfl), rfl, rfl, rfl, rfl, rfl, rfl, rfl, rfl, fun L1 h1 => ?_⟩
    show TopOk k _ (topL k (L1 ++ (x.take 0).reverse))
    rw [List.take_zero, List.reverse_nil, List.append_nil]
    exact h1
theorem mb12Step0 : stepsOk Try.prog (KLS [(14, addK)] [] 30) 100 4 122 (loopBody Try.prog 4 26) 0 false mb12Fs (mb12Alts mb12R0 mb12R1) mb12Inv mb12Mu ⟨_, _, mb12Sl0, mb12Bl0, mb12Z0⟩ := by
  intro x y hz
  obtain ⟨l, k, s, _, x, j, _⟩ := x
  obtain ⟨⟨_, _, _, _, _⟩, ⟨k1, _, _⟩, ⟨k2, _, _⟩, ⟨k3, _, _⟩, ⟨k4, _, _⟩, _⟩ := y
  refine (mb12Form0 l k s x j k1 k2 k3 k4 _ _ _).mpr ?_
  obtain ⟨q, hj, hq, hx, hs, k0, kle, q1, q2, q3, q4,  g4, L0, hT⟩ := hz
  obtain rfl : s = 4 := hs
  obtain rfl : k = k1 := q1.symm
  obtain rfl : k = k2 := q2.symm
  obtain rfl : k = k3 := q3.symm
  obtain rfl : k = k4 := q4.symm
  obtain rfl : j = (q : Int) - 1 := hj
  rw [ifp_ge]
  split
  · rename_i h
    obtain ⟨r, rfl⟩ : ∃ r : Nat, q = r + 1 := ⟨q - 1, by omega⟩
    have e : (((r + 1 : Nat) : Int) - 1) = (r : Int) := by omega
    have hrl : r < x.length := by omega
    simp only [e, natOf_nat]
    refine ⟨⟨by decide, by decide⟩, idx_ok hrl, _, nth_near0 hrl, _, nth_near1 hrl, Or.inr ⟨x[r], rfl, (by first | exact trivial | exact rfl), k0, fun c d hr => ?_, fun c d hr => ?_, trivial⟩⟩
    · obtain ⟨b, e4, _⟩ := c
      obtain ⟨⟨x4, _⟩, _⟩ := d
      obtain ⟨hb4, he4, hx4, hz4⟩ := hr
      obtain rfl : k = x4 := hx4.symm
      have hz4 : k = 0 := hz4
      have ha4 := add_0 (n := x[r]) hz4
      repeat (refine And.intro True.intro ?_)
      have ew : wrapF .i64 (Int.sub (r : Int) 1) = (r : Int) - 1 := by rw [wsub (by omega) (by omega)]
      simp only [ew]
      refine Or.inr ⟨l, Wk.refl _, x, Wk.refl _, (by first | exact trivial | exact rfl), ⟨r, rfl, by omega, hx, rfl, k0, kle, rfl, rfl, rfl, rfl, rfl, L0 ++ [x[r]], hT.top k0 ha4 rfl⟩, ?_, ?_⟩
      · show (((r : Int) - 1) + 1).toNat < (((r : Int)) + 1).toNat; omega
      · refine ⟨?_, ?_, trivial⟩
        · exact fun _ _ hr => by
            obtain ⟨a0, a1, a2, a3, a4, a5, a6, a7, hA⟩ := hr
            refine ⟨a0, a1, a2, a3, a4, a5, a6, a7, fun L1 h1 => ?_⟩
            have := hA (L1 ++ [x[r]]) (h1.top k0 ha4 rfl)
            rw [show (((r : Int) - 1 + 1).toNat) = r by omega, mb_step hrl] at this
            rwa [show ((((r : Int)) + 1).toNat) = r + 1 by omega]
        · exact fun _ _ hr => by
            obtain ⟨a0, a1, a2, a3, a4, a5, a6, hA⟩ := hr
            refine ⟨a0, a1, a2, a3, a4, a5, a6, fun L1 h1 => ?_⟩
            have := hA (L1 ++ [x[r]]) (h1.top k0 ha4 rfl)
            rw [show (((r : Int) - 1 + 1).toNat) = r by omega, mb_step hrl] at this
            rwa [show ((((r : Int)) + 1).toNat) = r + 1 by omega]
    · obtain ⟨b, e4, _⟩ := c
      obtain ⟨⟨x4, g4, _⟩, p4, _⟩ := d
      obtain ⟨hb4, he4, hx4, hz4, hg4, hp4⟩ := hr
      obtain rfl : k = x4 := hx4.symm
      obtain rfl : p4 = [x[r]] := hp4
      obtain rfl : g4 = (1, 1) := hg4
      have hz4 : 0 < k := hz4
      have ha4 := add_1 (n := x[r]) hz4
      repeat (refine And.intro True.intro ?_)
      have ew : wrapF .i64 (Int.sub (r : Int) 1) = (r : Int) - 1 := by rw [wsub (by omega) (by omega)]
      simp only [ew]
      refine Or.inl ⟨l, Wk.refl _, x, Wk.refl _, [x[r]], rfl, (by first | exact trivial | exact rfl), ⟨r, rfl, by omega, hx, rfl, k0, kle, rfl, rfl, rfl, rfl, rfl, L0 ++ [x[r]], hT.top k0 ha4 rfl⟩, ?_, ?_⟩
      · show (((r : Int) - 1) + 1).toNat < (((r : Int)) + 1).toNat; omega
      · refine ⟨?_, ?_, trivial⟩
        · exact fun _ _ hr => by
            obtain ⟨a0, a1, a2, a3, a4, a5, a6, a7, hA⟩ := hr
            refine ⟨a0, a1, a2, a3, a4, a5, a6, a7, fun L1 h1 => ?_⟩
            have := hA (L1 ++ [x[r]]) (h1.top k0 ha4 rfl)
            rw [show (((r : Int) - 1 + 1).toNat) = r by omega, mb_step hrl] at this
            rwa [show ((((r : Int)) + 1).toNat) = r + 1 by omega]
        · exact fun _ _ hr => by
            obtain ⟨a0, a1, a2, a3, a4, a5, a6, hA⟩ := hr
            refine ⟨a0, a1, a2, a3, a4, a5, a6, fun L1 h1 => ?_⟩
            have := hA (L1 ++ [x[r]]) (h1.top k0 ha4 rfl)
            rw [show (((r : Int) - 1 + 1).toNat) = r by omega, mb_step hrl] at this
            rwa [show ((((r : Int)) + 1).toNat) = r + 1 by omega]
  · rename_i h
    obtain rfl : q = 0 := by omega
    refine Or.inr ⟨trivial, l, Wk.refl _, (by first | exact trivial | exact rfl), rfl, rfl, rfl, rfl, rfl, rfl, rfl, fun L1 h1 => ?_⟩
    show TopOk k _ (topL k (L1 ++ (x.take 0).reverse))
    rw [List.take_zero, List.reverse_nil, List.append_nil]
    exact h1
theorem mb12Ok : LoopOk Try.prog 4 122 (.loop (loopBody Try.prog 4 26)) mb12C := loop_ok mb12Mu mixed (KLS_ok (cc_cons addCc (cc_nil))) rfl (steps_cons mb12Step (steps_cons mb12Step0 (steps_nil)))

/-! The loop mb21 of wayfinder/wayfinderlaw04.RankMerges. -/
abbrev mb21Z := ((List Near) × Int × Nat × Unit × (List Near) × Int × Unit) × ((Unit × Unit × Unit × Unit × Unit) × (Int × (Nat × Nat) × Unit) × (Int × (Nat × Nat) × Unit) × (Int × Unit × Unit) × (Int × (Nat × Nat) × Unit) × (List Near) × (List Near) × (List Near) × Unit)
noncomputable def mb21Sl : Tel ((List Near) × Int × Nat × Unit × (List Near) × Int × Unit) := .cons 0 (.lst En) (.cons 2 (.int .i64) (.cons 7 (.sl 0 1) (.cons 12 (.num .i64 1) (.cons 13 (.lst En) (.cons 14 (.int .i64) (.nil))))))
noncomputable def mb21Bl : BTel ((Unit × Unit × Unit × Unit × Unit) × (Int × (Nat × Nat) × Unit) × (Int × (Nat × Nat) × Unit) × (Int × Unit × Unit) × (Int × (Nat × Nat) × Unit) × (List Near) × (List Near) × (List Near) × Unit) := .cons (.row (.cons 0 (.ptr 1) (.cons 1 (.ptr 2) (.cons 2 (.ptr 3) (.cons 3 (.ptr 4) (.nil)))))) (.cons (.row (.cons 0 (.int .i64) (.cons 1 (.slq 5 2) (.nil)))) (.cons (.row (.cons 0 (.int .i64) (.cons 1 (.slq 6 2) (.nil)))) (.cons (.row (.cons 0 (.int .i64) (.cons 1 (.nilS) (.nil)))) (.cons (.row (.cons 0 (.int .i64) (.cons 1 (.slq 7 2) (.nil)))) (.cons (.rows En 30) (.cons (.rows En 30) (.cons (.rows En 30) (.nil))))))))
noncomputable def mb21Sl0 : Tel ((List Near) × Int × Nat × Unit × (List Near) × Int × Unit) := .cons 0 (.lst En) (.cons 2 (.int .i64) (.cons 7 (.sl 0 1) (.cons 12 (.num .i64 1) (.cons 13 (.lst En) (.cons 14 (.int .i64) (.nil))))))
noncomputable def mb21Bl0 : BTel ((Unit × Unit × Unit × Unit × Unit) × (Int × (Nat × Nat) × Unit) × (Int × (Nat × Nat) × Unit) × (Int × Unit × Unit) × (Int × Unit × Unit) × (List Near) × (List Near) × Unit) := .cons (.row (.cons 0 (.ptr 1) (.cons 1 (.ptr 2) (.cons 2 (.ptr 3) (.cons 3 (.ptr 4) (.nil)))))) (.cons (.row (.cons 0 (.int .i64) (.cons 1 (.slq 5 2) (.nil)))) (.cons (.row (.cons 0 (.int .i64) (.cons 1 (.slq 6 2) (.nil)))) (.cons (.row (.cons 0 (.int .i64) (.cons 1 (.nilS) (.nil)))) (.cons (.row (.cons 0 (.int .i64) (.cons 1 (.nilS) (.nil)))) (.cons (.rows En 30) (.cons (.rows En 30) (.nil)))))))
noncomputable def mb21Z0 : ((List Near) × Int × Nat × Unit × (List Near) × Int × Unit) → ((Unit × Unit × Unit × Unit × Unit) × (Int × (Nat × Nat) × Unit) × (Int × (Nat × Nat) × Unit) × (Int × Unit × Unit) × (Int × Unit × Unit) × (List Near) × (List Near) × Unit) → mb21Z := fun (l, (k, (s, ((), (x, (j, ())))))) (((), ((), ((), ((), ())))), ((k1, (h1, ())), ((k2, (h2, ())), ((k3, ((), ())), ((k4, ((), ())), (m1, (m2, ()))))))) => ((l, (k, (s, ((), (x, (j, ())))))), (((), ((), ((), ((), ())))), ((k1, (h1, ())), ((k2, (h2, ())), ((k3, ((), ())), ((k4, ((0, 0), ())), (m1, (m2, ([], ())))))))))
noncomputable def mb21Fs : List (LForm mb21Z) := [⟨_, _, mb21Sl, mb21Bl, fun x y => (x, y)⟩, ⟨_, _, mb21Sl0, mb21Bl0, mb21Z0⟩]
noncomputable def mb21Alts (R0 : mb21Z → ((List Near) × Int × Nat × Unit × Unit) → ((Unit × Unit × Unit × Unit × Unit) × (Int × (Nat × Nat) × Unit) × (Int × (Nat × Nat) × Unit) × (Int × Unit × Unit) × (Int × (Nat × Nat) × Unit) × (List Near) × (List Near) × (List Near) × Unit) → Prop) (R1 : mb21Z → ((List Near) × Int × Nat × Unit × Unit) → ((Unit × Unit × Unit × Unit × Unit) × (Int × (Nat × Nat) × Unit) × (Int × (Nat × Nat) × Unit) × (Int × Unit × Unit) × (Int × Unit × Unit) × (List Near) × (List Near) × Unit) → Prop) : List (Alt mb21Z) := [⟨.exit 6, (List Near) × Int × Nat × Unit × Unit, (Unit × Unit × Unit × Unit × Unit) × (Int × (Nat × Nat) × Unit) × (Int × (Nat × Nat) × Unit) × (Int × Unit × Unit) × (Int × (Nat × Nat) × Unit) × (List Near) × (List Near) × (List Near) × Unit, .cons 0 (.lst En) (.cons 2 (.int .i64) (.cons 7 (.sl 0 1) (.cons 12 (.num .i64 1) (.nil)))), .cons (.row (.cons 0 (.ptr 1) (.cons 1 (.ptr 2) (.cons 2 (.ptr 3) (.cons 3 (.ptr 4) (.nil)))))) (.cons (.row (.cons 0 (.int .i64) (.cons 1 (.slq 5 2) (.nil)))) (.cons (.row (.cons 0 (.int .i64) (.cons 1 (.slq 6 2) (.nil)))) (.cons (.row (.cons 0 (.int .i64) (.cons 1 (.nilS) (.nil)))) (.cons (.row (.cons 0 (.int .i64) (.cons 1 (.slq 7 2) (.nil)))) (.cons (.rows En 30) (.cons (.rows En 30) (.cons (.rows En 30) (.nil)))))))), R0⟩, ⟨.exit 6, (List Near) × Int × Nat × Unit × Unit, (Unit × Unit × Unit × Unit × Unit) × (Int × (Nat × Nat) × Unit) × (Int × (Nat × Nat) × Unit) × (Int × Unit × Unit) × (Int × Unit × Unit) × (List Near) × (List Near) × Unit, .cons 0 (.lst En) (.cons 2 (.int .i64) (.cons 7 (.sl 0 1) (.cons 12 (.num .i64 1) (.nil)))), .cons (.row (.cons 0 (.ptr 1) (.cons 1 (.ptr 2) (.cons 2 (.ptr 3) (.cons 3 (.ptr 4) (.nil)))))) (.cons (.row (.cons 0 (.int .i64) (.cons 1 (.slq 5 2) (.nil)))) (.cons (.row (.cons 0 (.int .i64) (.cons 1 (.slq 6 2) (.nil)))) (.cons (.row (.cons 0 (.int .i64) (.cons 1 (.nilS) (.nil)))) (.cons (.row (.cons 0 (.int .i64) (.cons 1 (.nilS) (.nil)))) (.cons (.rows En 30) (.cons (.rows En 30) (.nil))))))), R1⟩]

theorem mb21Form (l : List Near) (k : Int) (s : Nat) (x : List Near) (j : Int) (k1 : Int) (h1 : Nat × Nat) (k2 : Int) (h2 : Nat × Nat) (k3 : Int) (k4 : Int) (h4 : Nat × Nat) (m1 : List Near) (m2 : List Near) (m4 : List Near) (N : mb21Z → Prop) (R0 : mb21Z → ((List Near) × Int × Nat × Unit × Unit) → ((Unit × Unit × Unit × Unit × Unit) × (Int × (Nat × Nat) × Unit) × (Int × (Nat × Nat) × Unit) × (Int × Unit × Unit) × (Int × (Nat × Nat) × Unit) × (List Near) × (List Near) × (List Near) × Unit) → Prop) (R1 : mb21Z → ((List Near) × Int × Nat × Unit × Unit) → ((Unit × Unit × Unit × Unit × Unit) × (Int × (Nat × Nat) × Unit) × (Int × (Nat × Nat) × Unit) × (Int × Unit × Unit) × (Int × Unit × Unit) × (List Near) × (List Near) × Unit) → Prop) : ((runW Try.prog (KLS [(14, addK)] [] 30) 100).code none 4 122 (loopBody Try.prog 4 26) (mkT (mb21Sl.av id (l, (k, (s, ((), (x, (j, ())))))))) [] (stL false (mb21Bl.obs id (((), ((), ((), ((), ())))), ((k1, (h1, ())), ((k2, (h2, ())), ((k3, ((), ())), ((k4, (h4, ())), (m1, (m2, (m4, ())))))))))) (postL 0 mb21Fs (mb21Alts R0 R1) ((l, (k, (s, ((), (x, (j, ())))))), (((), ((), ((), ((), ())))), ((k1, (h1, ())), ((k2, (h2, ())), ((k3, ((), ())), ((k4, (h4, ())), (m1, (m2, (m4, ()))))))))) N)) =
  ( ifp (leInt (0 : Int) j) (idxOk (3 : Int) s ∧ idxOk j x.length ∧ ∃ (x_1 : Int), nth (((natOf j).mul (2 : Nat)).add (0 : Nat)) (List.flatMap En.f x) = some
  (AV.int IntKind.i64 x_1) ∧ ∃ (x_2 : Int), nth (((natOf j).mul (2 : Nat)).add (1 : Nat)) (List.flatMap En.f x) = some (AV.int IntKind.i64 x_2) ∧ ((∃ (a : Near),
  AV.agg [AV.int IntKind.i64 x_1, AV.int IntKind.i64 x_2] = AV.agg [AV.int IntKind.i64 a.fst, AV.int IntKind.i64 a.snd.fst] ∧ ∃ l_1, FE m4 l_1 ∧ true = true ∧
  add1Pre (((), a, ()), (k4, (h4.fst, h4.snd), ()), l_1, ()) ∧ (∀ c d, add1R0 (((), a, ()), (k4, (h4.fst, h4.snd), ()), l_1, ()) c d → True ∧ True ∧ True ∧ ((∃
  l_2, VW l l_2 ∧ ∃ l, VW x l ∧ ∃ l_3, FE m1 l_3 ∧ ∃ l_4, FE m2 l_4 ∧ ∃ l_5, FE d.2.1 l_5 ∧ true = true ∧ N ((l_2, k, s, (), l, wrapF IntKind.i64 (j.sub (1 :
  Int)), ()), ((), (), (), (), ()), (k1, (h1.fst, h1.snd), ()), (k2, (h2.fst, h2.snd), ()), (k3, (), ()), (d.1.1, (d.1.2.1.fst, d.1.2.1.snd), ()), l_3, l_4, l_5,
  ())) ∨ ∃ l_2, VW l l_2 ∧ ∃ l, VW x l ∧ False)) ∧ True) ∨ ∃ (a : Near), AV.agg [AV.int IntKind.i64 x_1, AV.int IntKind.i64 x_2] = AV.agg [AV.int IntKind.i64
  a.fst, AV.int IntKind.i64 a.snd.fst] ∧ False)) ((True ∧ ∃ l_1, VW l l_1 ∧ ∃ l_2, FE m1 l_2 ∧ ∃ l_3, FE m2 l_3 ∧ ∃ l_4, FE m4 l_4 ∧ true = true ∧ R0 ((l, k, s,
  (), x, j, ()), ((), (), (), (), ()), (k1, h1, ()), (k2, h2, ()), (k3, (), ()), (k4, h4, ()), m1, m2, m4, ()) (l_1, k, s, (), ()) (((), (), (), (), ()), (k1,
  (h1.fst, h1.snd), ()), (k2, (h2.fst, h2.snd), ()), (k3, (), ()), (k4, (h4.fst, h4.snd), ()), l_2, l_3, l_4, ())) ∨ True ∧ ∃ l_1, VW l l_1 ∧ False)) := by kernel_rfl

theorem mb21Form0 (l : List Near) (k : Int) (s : Nat) (x : List Near) (j : Int) (k1 : Int) (h1 : Nat × Nat) (k2 : Int) (h2 : Nat × Nat) (k3 : Int) (k4 : Int) (m1 : List Near) (m2 : List Near) (N : mb21Z → Prop) (R0 : mb21Z → ((List Near) × Int × Nat × Unit × Unit) → ((Unit × Unit × Unit × Unit × Unit) × (Int × (Nat × Nat) × Unit) × (Int × (Nat × Nat) × Unit) × (Int × Unit × Unit) × (Int × (Nat × Nat) × Unit) × (List Near) × (List Near) × (List Near) × Unit) → Prop) (R1 : mb21Z → ((List Near) × Int × Nat × Unit × Unit) → ((Unit × Unit × Unit × Unit × Unit) × (Int × (Nat × Nat) × Unit) × (Int × (Nat × Nat) × Unit) × (Int × Unit × Unit) × (Int × Unit × Unit) × (List Near) × (List Near) × Unit) → Prop) : ((runW Try.prog (KLS [(14, addK)] [] 30) 100).code none 4 122 (loopBody Try.prog 4 26) (mkT (mb21Sl0.av id (l, (k, (s, ((), (x, (j, ())))))))) [] (stL false (mb21Bl0.obs id (((), ((), ((), ((), ())))), ((k1, (h1, ())), ((k2, (h2, ())), ((k3, ((), ())), ((k4, ((), ())), (m1, (m2, ()))))))))) (postL 0 mb21Fs (mb21Alts R0 R1) (mb21Z0 (l, (k, (s, ((), (x, (j, ())))))) (((), ((), ((), ((), ())))), ((k1, (h1, ())), ((k2, (h2, ())), ((k3, ((), ())), ((k4, ((), ())), (m1, (m2, ())))))))) N)) =
  ( ifp (leInt (0 : Int) j) (idxOk (3 : Int) s ∧ idxOk j x.length ∧ ∃ (x_1 : Int), nth (((natOf j).mul (2 : Nat)).add (0 : Nat)) (List.flatMap En.f x) = some
  (AV.int IntKind.i64 x_1) ∧ ∃ (x_2 : Int), nth (((natOf j).mul (2 : Nat)).add (1 : Nat)) (List.flatMap En.f x) = some (AV.int IntKind.i64 x_2) ∧ ((∃ (a : Near),
  AV.agg [AV.int IntKind.i64 x_1, AV.int IntKind.i64 x_2] = AV.agg [AV.int IntKind.i64 a.fst, AV.int IntKind.i64 a.snd.fst] ∧ False) ∨ ∃ (a : Near), AV.agg
  [AV.int IntKind.i64 x_1, AV.int IntKind.i64 x_2] = AV.agg [AV.int IntKind.i64 a.fst, AV.int IntKind.i64 a.snd.fst] ∧ true = true ∧ add0Pre (((), a, ()), (k4,
  (), ()), ()) ∧ (∀ c d, add0R0 (((), a, ()), (k4, (), ()), ()) c d → True ∧ True ∧ True ∧ ((∃ l_1, VW l l_1 ∧ ∃ l, VW x l ∧ False) ∨ ∃ l_1, VW l l_1 ∧ ∃ l, VW x
  l ∧ ∃ l_2, FE m1 l_2 ∧ ∃ l_3, FE m2 l_3 ∧ true = true ∧ N ((l_1, k, s, (), l, wrapF IntKind.i64 (j.sub (1 : Int)), ()), ((), (), (), (), ()), (k1, (h1.fst,
  h1.snd), ()), (k2, (h2.fst, h2.snd), ()), (k3, (), ()), (d.1.1, ((0 : Nat), (0 : Nat)), ()), l_2, l_3, [], ()))) ∧ (∀ c d, add0R1 (((), a, ()), (k4, (), ()),
  ()) c d → True ∧ True ∧ True ∧ ((∃ l_1, VW l l_1 ∧ ∃ l, VW x l ∧ ∃ l_2, FE m1 l_2 ∧ ∃ l_3, FE m2 l_3 ∧ ∃ l_4, FE d.2.1 l_4 ∧ true = true ∧ N ((l_1, k, s, (),
  l, wrapF IntKind.i64 (j.sub (1 : Int)), ()), ((), (), (), (), ()), (k1, (h1.fst, h1.snd), ()), (k2, (h2.fst, h2.snd), ()), (k3, (), ()), (d.1.1, (d.1.2.1.fst,
  d.1.2.1.snd), ()), l_2, l_3, l_4, ())) ∨ ∃ l_1, VW l l_1 ∧ ∃ l, VW x l ∧ False)) ∧ True)) ((True ∧ ∃ l_1, VW l l_1 ∧ False) ∨ True ∧ ∃ l_1, VW l l_1 ∧ ∃ l_2,
  FE m1 l_2 ∧ ∃ l_3, FE m2 l_3 ∧ true = true ∧ R1 ((l, k, s, (), x, j, ()), ((), (), (), (), ()), (k1, h1, ()), (k2, h2, ()), (k3, (), ()), (k4, ((0 : Nat), (0 :
  Nat)), ()), m1, m2, [], ()) (l_1, k, s, (), ()) (((), (), (), (), ()), (k1, (h1.fst, h1.snd), ()), (k2, (h2.fst, h2.snd), ()), (k3, (), ()), (k4, (), ()), l_2,
  l_3, ()))) := by kernel_rfl

def mb21Inv : mb21Z → Prop := fun ((l, (k, (s, ((), (x, (j, ())))))), (((), ((), ((), ((), ())))), ((k1, (h1, ())), ((k2, (h2, ())), ((k3, ((), ())), ((k4, (h4, ())), (m1, (m2, (m4, ()))))))))) => ∃ q : Nat, j = (q : Int) - 1 ∧ q ≤ x.length ∧ x.length ≤ 150 ∧ s = 4 ∧ 0 ≤ k ∧ k ≤ 150 ∧ k1 = k ∧ k2 = k ∧ k3 = k ∧ k4 = k ∧ h1 = (m1.length, m1.length) ∧ h2 = (m2.length, m2.length) ∧ h4 = (m4.length, m4.length) ∧ ∃ L0, TopOk k m4 (topL k L0)
def mb21Mu : mb21Z → Nat := fun ((l, (k, (s, ((), (x, (j, ())))))), (((), ((), ((), ((), ())))), ((k1, (h1, ())), ((k2, (h2, ())), ((k3, ((), ())), ((k4, (h4, ())), (m1, (m2, (m4, ()))))))))) => (j + 1).toNat
def mb21R0 : mb21Z → ((List Near) × Int × Nat × Unit × Unit) → ((Unit × Unit × Unit × Unit × Unit) × (Int × (Nat × Nat) × Unit) × (Int × (Nat × Nat) × Unit) × (Int × Unit × Unit) × (Int × (Nat × Nat) × Unit) × (List Near) × (List Near) × (List Near) × Unit) → Prop := fun ((l, (k, (s, ((), (x, (j, ())))))), (((), ((), ((), ((), ())))), ((k1, (h1, ())), ((k2, (h2, ())), ((k3, ((), ())), ((k4, (h4, ())), (m1, (m2, (m4, ()))))))))) (l2, y, s2, _) (_, (x1, g1, _), (x2, g2, _), (x3, _), (x4, g4, _), n1, n2, n4, _) => l2 = l ∧ y = k ∧ s2 = 4 ∧ x1 = k ∧ x2 = k ∧ x3 = k ∧ x4 = k ∧ g1 = (m1.length, m1.length) ∧ n1 = m1 ∧ g2 = (m2.length, m2.length) ∧ n2 = m2 ∧ g4 = (n4.length, n4.length) ∧ ∀ L0, TopOk k m4 (topL k L0) → TopOk k n4 (topL k (L0 ++ (x.take (j + 1).toNat).reverse))
def mb21R1 : mb21Z → ((List Near) × Int × Nat × Unit × Unit) → ((Unit × Unit × Unit × Unit × Unit) × (Int × (Nat × Nat) × Unit) × (Int × (Nat × Nat) × Unit) × (Int × Unit × Unit) × (Int × Unit × Unit) × (List Near) × (List Near) × Unit) → Prop := fun ((l, (k, (s, ((), (x, (j, ())))))), (((), ((), ((), ((), ())))), ((k1, (h1, ())), ((k2, (h2, ())), ((k3, ((), ())), ((k4, (h4, ())), (m1, (m2, (m4, ()))))))))) (l2, y, s2, _) (_, (x1, g1, _), (x2, g2, _), (x3, _), (x4, _), n1, n2, _) => l2 = l ∧ y = k ∧ s2 = 4 ∧ x1 = k ∧ x2 = k ∧ x3 = k ∧ x4 = k ∧ g1 = (m1.length, m1.length) ∧ n1 = m1 ∧ g2 = (m2.length, m2.length) ∧ n2 = m2 ∧ ∀ L0, TopOk k m4 (topL k L0) → TopOk k [] (topL k (L0 ++ (x.take (j + 1).toNat).reverse))
noncomputable def mb21C : LoopC := loopC 0 mb21Fs (mb21Alts mb21R0 mb21R1) mb21Inv

theorem mb21Step : stepsOk Try.prog (KLS [(14, addK)] [] 30) 100 4 122 (loopBody Try.prog 4 26) 0 false mb21Fs (mb21Alts mb21R0 mb21R1) mb21Inv mb21Mu ⟨_, _, mb21Sl, mb21Bl, fun x y => (x, y)⟩ := by
  intro x y hz
  obtain ⟨l, k, s, _, x, j, _⟩ := x
  obtain ⟨⟨_, _, _, _, _⟩, ⟨k1, h1, _⟩, ⟨k2, h2, _⟩, ⟨k3, _, _⟩, ⟨k4, h4, _⟩, m1, m2, m4, _⟩ := y
  refine (mb21Form l k s x j k1 h1 k2 h2 k3 k4 h4 m1 m2 m4 _ _ _).mpr ?_
  obtain ⟨q, hj, hq, hx, hs, k0, kle, q1, q2, q3, q4, g1, g2, g4, L0, hT⟩ := hz
  obtain rfl : s = 4 := hs
  obtain rfl : k = k1 := q1.symm
  obtain rfl : k = k2 := q2.symm
  obtain rfl : k = k3 := q3.symm
  obtain rfl : k = k4 := q4.symm
  obtain rfl : h1 = (m1.length, m1.length) := g1
  obtain rfl : h2 = (m2.length, m2.length) := g2
  obtain rfl : h4 = (m4.length, m4.length) := g4
  obtain rfl : j = (q : Int) - 1 := hj
  rw [ifp_ge]
  split
  · rename_i h
    obtain ⟨r, rfl⟩ : ∃ r : Nat, q = r + 1 := ⟨q - 1, by omega⟩
    have e : (((r + 1 : Nat) : Int) - 1) = (r : Int) := by omega
    have hrl : r < x.length := by omega
    simp only [e, natOf_nat]
    have hl4 := hT.len
    have hl5 := hT.l
    refine ⟨⟨by decide, by decide⟩, idx_ok hrl, _, nth_near0 hrl, _, nth_near1 hrl, Or.inl ⟨x[r], rfl, m4, rfl, (by first | exact trivial | exact rfl), ⟨rfl, hT.h, by omega, k0⟩, fun c d hr => ?_, trivial⟩⟩
    obtain ⟨b, e4, _⟩ := c
    obtain ⟨⟨x4, g4, _⟩, p4, _⟩ := d
    obtain ⟨he4, hx4, hg4, ha4⟩ := hr
    obtain rfl : k = x4 := hx4.symm
    obtain rfl : g4 = (p4.length, p4.length) := hg4
    repeat (refine And.intro True.intro ?_)
    have ew : wrapF .i64 (Int.sub (r : Int) 1) = (r : Int) - 1 := by rw [wsub (by omega) (by omega)]
    simp only [ew]
    refine Or.inl ⟨l, Wk.refl _, x, Wk.refl _, m1, rfl, m2, rfl, p4, rfl, (by first | exact trivial | exact rfl), ⟨r, rfl, by omega, hx, rfl, k0, kle, rfl, rfl, rfl, rfl, rfl, rfl, rfl, L0 ++ [x[r]], hT.top k0 ha4 rfl⟩, ?_, ?_⟩
    · show (((r : Int) - 1) + 1).toNat < (((r : Int)) + 1).toNat; omega
    · refine ⟨?_, ?_, trivial⟩
      · exact fun _ _ hr => by
          obtain ⟨a0, a1, a2, a3, a4, a5, a6, a7, a8, a9, a10, a11, hA⟩ := hr
          refine ⟨a0, a1, a2, a3, a4, a5, a6, a7, a8, a9, a10, a11, fun L1 h1 => ?_⟩
          have := hA (L1 ++ [x[r]]) (h1.top k0 ha4 rfl)
          rw [show (((r : Int) - 1 + 1).toNat) = r by omega, mb_step hrl] at this
          rwa [show ((((r : Int)) + 1).toNat) = r + 1 by omega]
      · exact fun _ _ hr => by
          obtain ⟨a0, a1, a2, a3, a4, a5, a6, a7, a8, a9, a10, hA⟩ := hr
          refine ⟨a0, a1, a2, a3, a4, a5, a6, a7, a8, a9, a10, fun L1 h1 => ?_⟩
          have := hA (L1 ++ [x[r]]) (h1.top k0 ha4 rfl)
          rw [show (((r : Int) - 1 + 1).toNat) = r by omega, mb_step hrl] at this
          rwa [show ((((r : Int)) + 1).toNat) = r + 1 by omega]
  · rename_i h
    obtain rfl : q = 0 := by omega
    refine Or.inl ⟨trivial, l, Wk.refl _, m1, rfl, m2, rfl, m4, rfl, (by first | exact trivial | exact rfl), rfl, rfl, rfl, rfl, rfl, rfl, rfl, rfl, rfl, rfl, rfl, rfl, fun L1 h1 => ?_⟩
    show TopOk k _ (topL k (L1 ++ (x.take 0).reverse))
    rw [List.take_zero, List.reverse_nil, List.append_nil]
    exact h1
theorem mb21Step0 : stepsOk Try.prog (KLS [(14, addK)] [] 30) 100 4 122 (loopBody Try.prog 4 26) 0 false mb21Fs (mb21Alts mb21R0 mb21R1) mb21Inv mb21Mu ⟨_, _, mb21Sl0, mb21Bl0, mb21Z0⟩ := by
  intro x y hz
  obtain ⟨l, k, s, _, x, j, _⟩ := x
  obtain ⟨⟨_, _, _, _, _⟩, ⟨k1, h1, _⟩, ⟨k2, h2, _⟩, ⟨k3, _, _⟩, ⟨k4, _, _⟩, m1, m2, _⟩ := y
  refine (mb21Form0 l k s x j k1 h1 k2 h2 k3 k4 m1 m2 _ _ _).mpr ?_
  obtain ⟨q, hj, hq, hx, hs, k0, kle, q1, q2, q3, q4, g1, g2, g4, L0, hT⟩ := hz
  obtain rfl : s = 4 := hs
  obtain rfl : k = k1 := q1.symm
  obtain rfl : k = k2 := q2.symm
  obtain rfl : k = k3 := q3.symm
  obtain rfl : k = k4 := q4.symm
  obtain rfl : h1 = (m1.length, m1.length) := g1
  obtain rfl : h2 = (m2.length, m2.length) := g2
  obtain rfl : j = (q : Int) - 1 := hj
  rw [ifp_ge]
  split
  · rename_i h
    obtain ⟨r, rfl⟩ : ∃ r : Nat, q = r + 1 := ⟨q - 1, by omega⟩
    have e : (((r + 1 : Nat) : Int) - 1) = (r : Int) := by omega
    have hrl : r < x.length := by omega
    simp only [e, natOf_nat]
    refine ⟨⟨by decide, by decide⟩, idx_ok hrl, _, nth_near0 hrl, _, nth_near1 hrl, Or.inr ⟨x[r], rfl, (by first | exact trivial | exact rfl), k0, fun c d hr => ?_, fun c d hr => ?_, trivial⟩⟩
    · obtain ⟨b, e4, _⟩ := c
      obtain ⟨⟨x4, _⟩, _⟩ := d
      obtain ⟨hb4, he4, hx4, hz4⟩ := hr
      obtain rfl : k = x4 := hx4.symm
      have hz4 : k = 0 := hz4
      have ha4 := add_0 (n := x[r]) hz4
      repeat (refine And.intro True.intro ?_)
      have ew : wrapF .i64 (Int.sub (r : Int) 1) = (r : Int) - 1 := by rw [wsub (by omega) (by omega)]
      simp only [ew]
      refine Or.inr ⟨l, Wk.refl _, x, Wk.refl _, m1, rfl, m2, rfl, (by first | exact trivial | exact rfl), ⟨r, rfl, by omega, hx, rfl, k0, kle, rfl, rfl, rfl, rfl, rfl, rfl, rfl, L0 ++ [x[r]], hT.top k0 ha4 rfl⟩, ?_, ?_⟩
      · show (((r : Int) - 1) + 1).toNat < (((r : Int)) + 1).toNat; omega
      · refine ⟨?_, ?_, trivial⟩
        · exact fun _ _ hr => by
            obtain ⟨a0, a1, a2, a3, a4, a5, a6, a7, a8, a9, a10, a11, hA⟩ := hr
            refine ⟨a0, a1, a2, a3, a4, a5, a6, a7, a8, a9, a10, a11, fun L1 h1 => ?_⟩
            have := hA (L1 ++ [x[r]]) (h1.top k0 ha4 rfl)
            rw [show (((r : Int) - 1 + 1).toNat) = r by omega, mb_step hrl] at this
            rwa [show ((((r : Int)) + 1).toNat) = r + 1 by omega]
        · exact fun _ _ hr => by
            obtain ⟨a0, a1, a2, a3, a4, a5, a6, a7, a8, a9, a10, hA⟩ := hr
            refine ⟨a0, a1, a2, a3, a4, a5, a6, a7, a8, a9, a10, fun L1 h1 => ?_⟩
            have := hA (L1 ++ [x[r]]) (h1.top k0 ha4 rfl)
            rw [show (((r : Int) - 1 + 1).toNat) = r by omega, mb_step hrl] at this
            rwa [show ((((r : Int)) + 1).toNat) = r + 1 by omega]
    · obtain ⟨b, e4, _⟩ := c
      obtain ⟨⟨x4, g4, _⟩, p4, _⟩ := d
      obtain ⟨hb4, he4, hx4, hz4, hg4, hp4⟩ := hr
      obtain rfl : k = x4 := hx4.symm
      obtain rfl : p4 = [x[r]] := hp4
      obtain rfl : g4 = (1, 1) := hg4
      have hz4 : 0 < k := hz4
      have ha4 := add_1 (n := x[r]) hz4
      repeat (refine And.intro True.intro ?_)
      have ew : wrapF .i64 (Int.sub (r : Int) 1) = (r : Int) - 1 := by rw [wsub (by omega) (by omega)]
      simp only [ew]
      refine Or.inl ⟨l, Wk.refl _, x, Wk.refl _, m1, rfl, m2, rfl, [x[r]], rfl, (by first | exact trivial | exact rfl), ⟨r, rfl, by omega, hx, rfl, k0, kle, rfl, rfl, rfl, rfl, rfl, rfl, rfl, L0 ++ [x[r]], hT.top k0 ha4 rfl⟩, ?_, ?_⟩
      · show (((r : Int) - 1) + 1).toNat < (((r : Int)) + 1).toNat; omega
      · refine ⟨?_, ?_, trivial⟩
        · exact fun _ _ hr => by
            obtain ⟨a0, a1, a2, a3, a4, a5, a6, a7, a8, a9, a10, a11, hA⟩ := hr
            refine ⟨a0, a1, a2, a3, a4, a5, a6, a7, a8, a9, a10, a11, fun L1 h1 => ?_⟩
            have := hA (L1 ++ [x[r]]) (h1.top k0 ha4 rfl)
            rw [show (((r : Int) - 1 + 1).toNat) = r by omega, mb_step hrl] at this
            rwa [show ((((r : Int)) + 1).toNat) = r + 1 by omega]
        · exact fun _ _ hr => by
            obtain ⟨a0, a1, a2, a3, a4, a5, a6, a7, a8, a9, a10, hA⟩ := hr
            refine ⟨a0, a1, a2, a3, a4, a5, a6, a7, a8, a9, a10, fun L1 h1 => ?_⟩
            have := hA (L1 ++ [x[r]]) (h1.top k0 ha4 rfl)
            rw [show (((r : Int) - 1 + 1).toNat) = r by omega, mb_step hrl] at this
            rwa [show ((((r : Int)) + 1).toNat) = r + 1 by omega]
  · rename_i h
    obtain rfl : q = 0 := by omega
    refine Or.inr ⟨trivial, l, Wk.refl _, m1, rfl, m2, rfl, (by first | exact trivial | exact rfl), rfl, rfl, rfl, rfl, rfl, rfl, rfl, rfl, rfl, rfl, rfl, fun L1 h1 => ?_⟩
    show TopOk k _ (topL k (L1 ++ (x.take 0).reverse))
    rw [List.take_zero, List.reverse_nil, List.append_nil]
    exact h1
theorem mb21Ok : LoopOk Try.prog 4 122 (.loop (loopBody Try.prog 4 26)) mb21C := loop_ok mb21Mu mixed (KLS_ok (cc_cons addCc (cc_nil))) rfl (steps_cons mb21Step (steps_cons mb21Step0 (steps_nil)))

/-! The loop mb22 of wayfinder/wayfinderlaw04.RankMerges. -/
abbrev mb22Z := ((List Near) × Int × Nat × Unit × (List Near) × Int × Unit) × ((Unit × Unit × Unit × Unit × Unit) × (Int × (Nat × Nat) × Unit) × (Int × (Nat × Nat) × Unit) × (Int × Unit × Unit) × (Int × (Nat × Nat) × Unit) × (List Near) × (List Near) × (List Near) × Unit)
noncomputable def mb22Sl : Tel ((List Near) × Int × Nat × Unit × (List Near) × Int × Unit) := .cons 0 (.lst En) (.cons 2 (.int .i64) (.cons 7 (.sl 0 1) (.cons 12 (.num .i64 2) (.cons 13 (.lst En) (.cons 14 (.int .i64) (.nil))))))
noncomputable def mb22Bl : BTel ((Unit × Unit × Unit × Unit × Unit) × (Int × (Nat × Nat) × Unit) × (Int × (Nat × Nat) × Unit) × (Int × Unit × Unit) × (Int × (Nat × Nat) × Unit) × (List Near) × (List Near) × (List Near) × Unit) := .cons (.row (.cons 0 (.ptr 1) (.cons 1 (.ptr 2) (.cons 2 (.ptr 3) (.cons 3 (.ptr 4) (.nil)))))) (.cons (.row (.cons 0 (.int .i64) (.cons 1 (.slq 5 2) (.nil)))) (.cons (.row (.cons 0 (.int .i64) (.cons 1 (.slq 6 2) (.nil)))) (.cons (.row (.cons 0 (.int .i64) (.cons 1 (.nilS) (.nil)))) (.cons (.row (.cons 0 (.int .i64) (.cons 1 (.slq 7 2) (.nil)))) (.cons (.rows En 30) (.cons (.rows En 30) (.cons (.rows En 30) (.nil))))))))
noncomputable def mb22Sl0 : Tel ((List Near) × Int × Nat × Unit × (List Near) × Int × Unit) := .cons 0 (.lst En) (.cons 2 (.int .i64) (.cons 7 (.sl 0 1) (.cons 12 (.num .i64 2) (.cons 13 (.lst En) (.cons 14 (.int .i64) (.nil))))))
noncomputable def mb22Bl0 : BTel ((Unit × Unit × Unit × Unit × Unit) × (Int × (Nat × Nat) × Unit) × (Int × (Nat × Nat) × Unit) × (Int × Unit × Unit) × (Int × Unit × Unit) × (List Near) × (List Near) × Unit) := .cons (.row (.cons 0 (.ptr 1) (.cons 1 (.ptr 2) (.cons 2 (.ptr 3) (.cons 3 (.ptr 4) (.nil)))))) (.cons (.row (.cons 0 (.int .i64) (.cons 1 (.slq 5 2) (.nil)))) (.cons (.row (.cons 0 (.int .i64) (.cons 1 (.slq 6 2) (.nil)))) (.cons (.row (.cons 0 (.int .i64) (.cons 1 (.nilS) (.nil)))) (.cons (.row (.cons 0 (.int .i64) (.cons 1 (.nilS) (.nil)))) (.cons (.rows En 30) (.cons (.rows En 30) (.nil)))))))
noncomputable def mb22Z0 : ((List Near) × Int × Nat × Unit × (List Near) × Int × Unit) → ((Unit × Unit × Unit × Unit × Unit) × (Int × (Nat × Nat) × Unit) × (Int × (Nat × Nat) × Unit) × (Int × Unit × Unit) × (Int × Unit × Unit) × (List Near) × (List Near) × Unit) → mb22Z := fun (l, (k, (s, ((), (x, (j, ())))))) (((), ((), ((), ((), ())))), ((k1, (h1, ())), ((k2, (h2, ())), ((k3, ((), ())), ((k4, ((), ())), (m1, (m2, ()))))))) => ((l, (k, (s, ((), (x, (j, ())))))), (((), ((), ((), ((), ())))), ((k1, (h1, ())), ((k2, (h2, ())), ((k3, ((), ())), ((k4, ((0, 0), ())), (m1, (m2, ([], ())))))))))
noncomputable def mb22Fs : List (LForm mb22Z) := [⟨_, _, mb22Sl, mb22Bl, fun x y => (x, y)⟩, ⟨_, _, mb22Sl0, mb22Bl0, mb22Z0⟩]
noncomputable def mb22Alts (R0 : mb22Z → ((List Near) × Int × Nat × Unit × Unit) → ((Unit × Unit × Unit × Unit × Unit) × (Int × (Nat × Nat) × Unit) × (Int × (Nat × Nat) × Unit) × (Int × Unit × Unit) × (Int × (Nat × Nat) × Unit) × (List Near) × (List Near) × (List Near) × Unit) → Prop) (R1 : mb22Z → ((List Near) × Int × Nat × Unit × Unit) → ((Unit × Unit × Unit × Unit × Unit) × (Int × (Nat × Nat) × Unit) × (Int × (Nat × Nat) × Unit) × (Int × Unit × Unit) × (Int × Unit × Unit) × (List Near) × (List Near) × Unit) → Prop) : List (Alt mb22Z) := [⟨.exit 6, (List Near) × Int × Nat × Unit × Unit, (Unit × Unit × Unit × Unit × Unit) × (Int × (Nat × Nat) × Unit) × (Int × (Nat × Nat) × Unit) × (Int × Unit × Unit) × (Int × (Nat × Nat) × Unit) × (List Near) × (List Near) × (List Near) × Unit, .cons 0 (.lst En) (.cons 2 (.int .i64) (.cons 7 (.sl 0 1) (.cons 12 (.num .i64 2) (.nil)))), .cons (.row (.cons 0 (.ptr 1) (.cons 1 (.ptr 2) (.cons 2 (.ptr 3) (.cons 3 (.ptr 4) (.nil)))))) (.cons (.row (.cons 0 (.int .i64) (.cons 1 (.slq 5 2) (.nil)))) (.cons (.row (.cons 0 (.int .i64) (.cons 1 (.slq 6 2) (.nil)))) (.cons (.row (.cons 0 (.int .i64) (.cons 1 (.nilS) (.nil)))) (.cons (.row (.cons 0 (.int .i64) (.cons 1 (.slq 7 2) (.nil)))) (.cons (.rows En 30) (.cons (.rows En 30) (.cons (.rows En 30) (.nil)))))))), R0⟩, ⟨.exit 6, (List Near) × Int × Nat × Unit × Unit, (Unit × Unit × Unit × Unit × Unit) × (Int × (Nat × Nat) × Unit) × (Int × (Nat × Nat) × Unit) × (Int × Unit × Unit) × (Int × Unit × Unit) × (List Near) × (List Near) × Unit, .cons 0 (.lst En) (.cons 2 (.int .i64) (.cons 7 (.sl 0 1) (.cons 12 (.num .i64 2) (.nil)))), .cons (.row (.cons 0 (.ptr 1) (.cons 1 (.ptr 2) (.cons 2 (.ptr 3) (.cons 3 (.ptr 4) (.nil)))))) (.cons (.row (.cons 0 (.int .i64) (.cons 1 (.slq 5 2) (.nil)))) (.cons (.row (.cons 0 (.int .i64) (.cons 1 (.slq 6 2) (.nil)))) (.cons (.row (.cons 0 (.int .i64) (.cons 1 (.nilS) (.nil)))) (.cons (.row (.cons 0 (.int .i64) (.cons 1 (.nilS) (.nil)))) (.cons (.rows En 30) (.cons (.rows En 30) (.nil))))))), R1⟩]

theorem mb22Form (l : List Near) (k : Int) (s : Nat) (x : List Near) (j : Int) (k1 : Int) (h1 : Nat × Nat) (k2 : Int) (h2 : Nat × Nat) (k3 : Int) (k4 : Int) (h4 : Nat × Nat) (m1 : List Near) (m2 : List Near) (m4 : List Near) (N : mb22Z → Prop) (R0 : mb22Z → ((List Near) × Int × Nat × Unit × Unit) → ((Unit × Unit × Unit × Unit × Unit) × (Int × (Nat × Nat) × Unit) × (Int × (Nat × Nat) × Unit) × (Int × Unit × Unit) × (Int × (Nat × Nat) × Unit) × (List Near) × (List Near) × (List Near) × Unit) → Prop) (R1 : mb22Z → ((List Near) × Int × Nat × Unit × Unit) → ((Unit × Unit × Unit × Unit × Unit) × (Int × (Nat × Nat) × Unit) × (Int × (Nat × Nat) × Unit) × (Int × Unit × Unit) × (Int × Unit × Unit) × (List Near) × (List Near) × Unit) → Prop) : ((runW Try.prog (KLS [(14, addK)] [] 30) 100).code none 4 122 (loopBody Try.prog 4 26) (mkT (mb22Sl.av id (l, (k, (s, ((), (x, (j, ())))))))) [] (stL false (mb22Bl.obs id (((), ((), ((), ((), ())))), ((k1, (h1, ())), ((k2, (h2, ())), ((k3, ((), ())), ((k4, (h4, ())), (m1, (m2, (m4, ())))))))))) (postL 0 mb22Fs (mb22Alts R0 R1) ((l, (k, (s, ((), (x, (j, ())))))), (((), ((), ((), ((), ())))), ((k1, (h1, ())), ((k2, (h2, ())), ((k3, ((), ())), ((k4, (h4, ())), (m1, (m2, (m4, ()))))))))) N)) =
  ( ifp (leInt (0 : Int) j) (idxOk (3 : Int) s ∧ idxOk j x.length ∧ ∃ (x_1 : Int), nth (((natOf j).mul (2 : Nat)).add (0 : Nat)) (List.flatMap En.f x) = some
  (AV.int IntKind.i64 x_1) ∧ ∃ (x_2 : Int), nth (((natOf j).mul (2 : Nat)).add (1 : Nat)) (List.flatMap En.f x) = some (AV.int IntKind.i64 x_2) ∧ ((∃ (a : Near),
  AV.agg [AV.int IntKind.i64 x_1, AV.int IntKind.i64 x_2] = AV.agg [AV.int IntKind.i64 a.fst, AV.int IntKind.i64 a.snd.fst] ∧ ∃ l_1, FE m4 l_1 ∧ true = true ∧
  add1Pre (((), a, ()), (k4, (h4.fst, h4.snd), ()), l_1, ()) ∧ (∀ c d, add1R0 (((), a, ()), (k4, (h4.fst, h4.snd), ()), l_1, ()) c d → True ∧ True ∧ True ∧ ((∃
  l_2, VW l l_2 ∧ ∃ l, VW x l ∧ ∃ l_3, FE m1 l_3 ∧ ∃ l_4, FE m2 l_4 ∧ ∃ l_5, FE d.2.1 l_5 ∧ true = true ∧ N ((l_2, k, s, (), l, wrapF IntKind.i64 (j.sub (1 :
  Int)), ()), ((), (), (), (), ()), (k1, (h1.fst, h1.snd), ()), (k2, (h2.fst, h2.snd), ()), (k3, (), ()), (d.1.1, (d.1.2.1.fst, d.1.2.1.snd), ()), l_3, l_4, l_5,
  ())) ∨ ∃ l_2, VW l l_2 ∧ ∃ l, VW x l ∧ False)) ∧ True) ∨ ∃ (a : Near), AV.agg [AV.int IntKind.i64 x_1, AV.int IntKind.i64 x_2] = AV.agg [AV.int IntKind.i64
  a.fst, AV.int IntKind.i64 a.snd.fst] ∧ False)) ((True ∧ ∃ l_1, VW l l_1 ∧ ∃ l_2, FE m1 l_2 ∧ ∃ l_3, FE m2 l_3 ∧ ∃ l_4, FE m4 l_4 ∧ true = true ∧ R0 ((l, k, s,
  (), x, j, ()), ((), (), (), (), ()), (k1, h1, ()), (k2, h2, ()), (k3, (), ()), (k4, h4, ()), m1, m2, m4, ()) (l_1, k, s, (), ()) (((), (), (), (), ()), (k1,
  (h1.fst, h1.snd), ()), (k2, (h2.fst, h2.snd), ()), (k3, (), ()), (k4, (h4.fst, h4.snd), ()), l_2, l_3, l_4, ())) ∨ True ∧ ∃ l_1, VW l l_1 ∧ False)) := by kernel_rfl

theorem mb22Form0 (l : List Near) (k : Int) (s : Nat) (x : List Near) (j : Int) (k1 : Int) (h1 : Nat × Nat) (k2 : Int) (h2 : Nat × Nat) (k3 : Int) (k4 : Int) (m1 : List Near) (m2 : List Near) (N : mb22Z → Prop) (R0 : mb22Z → ((List Near) × Int × Nat × Unit × Unit) → ((Unit × Unit × Unit × Unit × Unit) × (Int × (Nat × Nat) × Unit) × (Int × (Nat × Nat) × Unit) × (Int × Unit × Unit) × (Int × (Nat × Nat) × Unit) × (List Near) × (List Near) × (List Near) × Unit) → Prop) (R1 : mb22Z → ((List Near) × Int × Nat × Unit × Unit) → ((Unit × Unit × Unit × Unit × Unit) × (Int × (Nat × Nat) × Unit) × (Int × (Nat × Nat) × Unit) × (Int × Unit × Unit) × (Int × Unit × Unit) × (List Near) × (List Near) × Unit) → Prop) : ((runW Try.prog (KLS [(14, addK)] [] 30) 100).code none 4 122 (loopBody Try.prog 4 26) (mkT (mb22Sl0.av id (l, (k, (s, ((), (x, (j, ())))))))) [] (stL false (mb22Bl0.obs id (((), ((), ((), ((), ())))), ((k1, (h1, ())), ((k2, (h2, ())), ((k3, ((), ())), ((k4, ((), ())), (m1, (m2, ()))))))))) (postL 0 mb22Fs (mb22Alts R0 R1) (mb22Z0 (l, (k, (s, ((), (x, (j, ())))))) (((), ((), ((), ((), ())))), ((k1, (h1, ())), ((k2, (h2, ())), ((k3, ((), ())), ((k4, ((), ())), (m1, (m2, ())))))))) N)) =
  ( ifp (leInt (0 : Int) j) (idxOk (3 : Int) s ∧ idxOk j x.length ∧ ∃ (x_1 : Int), nth (((natOf j).mul (2 : Nat)).add (0 : Nat)) (List.flatMap En.f x) = some
  (AV.int IntKind.i64 x_1) ∧ ∃ (x_2 : Int), nth (((natOf j).mul (2 : Nat)).add (1 : Nat)) (List.flatMap En.f x) = some (AV.int IntKind.i64 x_2) ∧ ((∃ (a : Near),
  AV.agg [AV.int IntKind.i64 x_1, AV.int IntKind.i64 x_2] = AV.agg [AV.int IntKind.i64 a.fst, AV.int IntKind.i64 a.snd.fst] ∧ False) ∨ ∃ (a : Near), AV.agg
  [AV.int IntKind.i64 x_1, AV.int IntKind.i64 x_2] = AV.agg [AV.int IntKind.i64 a.fst, AV.int IntKind.i64 a.snd.fst] ∧ true = true ∧ add0Pre (((), a, ()), (k4,
  (), ()), ()) ∧ (∀ c d, add0R0 (((), a, ()), (k4, (), ()), ()) c d → True ∧ True ∧ True ∧ ((∃ l_1, VW l l_1 ∧ ∃ l, VW x l ∧ False) ∨ ∃ l_1, VW l l_1 ∧ ∃ l, VW x
  l ∧ ∃ l_2, FE m1 l_2 ∧ ∃ l_3, FE m2 l_3 ∧ true = true ∧ N ((l_1, k, s, (), l, wrapF IntKind.i64 (j.sub (1 : Int)), ()), ((), (), (), (), ()), (k1, (h1.fst,
  h1.snd), ()), (k2, (h2.fst, h2.snd), ()), (k3, (), ()), (d.1.1, ((0 : Nat), (0 : Nat)), ()), l_2, l_3, [], ()))) ∧ (∀ c d, add0R1 (((), a, ()), (k4, (), ()),
  ()) c d → True ∧ True ∧ True ∧ ((∃ l_1, VW l l_1 ∧ ∃ l, VW x l ∧ ∃ l_2, FE m1 l_2 ∧ ∃ l_3, FE m2 l_3 ∧ ∃ l_4, FE d.2.1 l_4 ∧ true = true ∧ N ((l_1, k, s, (),
  l, wrapF IntKind.i64 (j.sub (1 : Int)), ()), ((), (), (), (), ()), (k1, (h1.fst, h1.snd), ()), (k2, (h2.fst, h2.snd), ()), (k3, (), ()), (d.1.1, (d.1.2.1.fst,
  d.1.2.1.snd), ()), l_2, l_3, l_4, ())) ∨ ∃ l_1, VW l l_1 ∧ ∃ l, VW x l ∧ False)) ∧ True)) ((True ∧ ∃ l_1, VW l l_1 ∧ False) ∨ True ∧ ∃ l_1, VW l l_1 ∧ ∃ l_2,
  FE m1 l_2 ∧ ∃ l_3, FE m2 l_3 ∧ true = true ∧ R1 ((l, k, s, (), x, j, ()), ((), (), (), (), ()), (k1, h1, ()), (k2, h2, ()), (k3, (), ()), (k4, ((0 : Nat), (0 :
  Nat)), ()), m1, m2, [], ()) (l_1, k, s, (), ()) (((), (), (), (), ()), (k1, (h1.fst, h1.snd), ()), (k2, (h2.fst, h2.snd), ()), (k3, (), ()), (k4, (), ()), l_2,
  l_3, ()))) := by kernel_rfl

def mb22Inv : mb22Z → Prop := fun ((l, (k, (s, ((), (x, (j, ())))))), (((), ((), ((), ((), ())))), ((k1, (h1, ())), ((k2, (h2, ())), ((k3, ((), ())), ((k4, (h4, ())), (m1, (m2, (m4, ()))))))))) => ∃ q : Nat, j = (q : Int) - 1 ∧ q ≤ x.length ∧ x.length ≤ 150 ∧ s = 4 ∧ 0 ≤ k ∧ k ≤ 150 ∧ k1 = k ∧ k2 = k ∧ k3 = k ∧ k4 = k ∧ h1 = (m1.length, m1.length) ∧ h2 = (m2.length, m2.length) ∧ h4 = (m4.length, m4.length) ∧ ∃ L0, TopOk k m4 (topL k L0)
def mb22Mu : mb22Z → Nat := fun ((l, (k, (s, ((), (x, (j, ())))))), (((), ((), ((), ((), ())))), ((k1, (h1, ())), ((k2, (h2, ())), ((k3, ((), ())), ((k4, (h4, ())), (m1, (m2, (m4, ()))))))))) => (j + 1).toNat
def mb22R0 : mb22Z → ((List Near) × Int × Nat × Unit × Unit) → ((Unit × Unit × Unit × Unit × Unit) × (Int × (Nat × Nat) × Unit) × (Int × (Nat × Nat) × Unit) × (Int × Unit × Unit) × (Int × (Nat × Nat) × Unit) × (List Near) × (List Near) × (List Near) × Unit) → Prop := fun ((l, (k, (s, ((), (x, (j, ())))))), (((), ((), ((), ((), ())))), ((k1, (h1, ())), ((k2, (h2, ())), ((k3, ((), ())), ((k4, (h4, ())), (m1, (m2, (m4, ()))))))))) (l2, y, s2, _) (_, (x1, g1, _), (x2, g2, _), (x3, _), (x4, g4, _), n1, n2, n4, _) => l2 = l ∧ y = k ∧ s2 = 4 ∧ x1 = k ∧ x2 = k ∧ x3 = k ∧ x4 = k ∧ g1 = (m1.length, m1.length) ∧ n1 = m1 ∧ g2 = (m2.length, m2.length) ∧ n2 = m2 ∧ g4 = (n4.length, n4.length) ∧ ∀ L0, TopOk k m4 (topL k L0) → TopOk k n4 (topL k (L0 ++ (x.take (j + 1).toNat).reverse))
def mb22R1 : mb22Z → ((List Near) × Int × Nat × Unit × Unit) → ((Unit × Unit × Unit × Unit × Unit) × (Int × (Nat × Nat) × Unit) × (Int × (Nat × Nat) × Unit) × (Int × Unit × Unit) × (Int × Unit × Unit) × (List Near) × (List Near) × Unit) → Prop := fun ((l, (k, (s, ((), (x, (j, ())))))), (((), ((), ((), ((), ())))), ((k1, (h1, ())), ((k2, (h2, ())), ((k3, ((), ())), ((k4, (h4, ())), (m1, (m2, (m4, ()))))))))) (l2, y, s2, _) (_, (x1, g1, _), (x2, g2, _), (x3, _), (x4, _), n1, n2, _) => l2 = l ∧ y = k ∧ s2 = 4 ∧ x1 = k ∧ x2 = k ∧ x3 = k ∧ x4 = k ∧ g1 = (m1.length, m1.length) ∧ n1 = m1 ∧ g2 = (m2.length, m2.length) ∧ n2 = m2 ∧ ∀ L0, TopOk k m4 (topL k L0) → TopOk k [] (topL k (L0 ++ (x.take (j + 1).toNat).reverse))
noncomputable def mb22C : LoopC := loopC 0 mb22Fs (mb22Alts mb22R0 mb22R1) mb22Inv

theorem mb22Step : stepsOk Try.prog (KLS [(14, addK)] [] 30) 100 4 122 (loopBody Try.prog 4 26) 0 false mb22Fs (mb22Alts mb22R0 mb22R1) mb22Inv mb22Mu ⟨_, _, mb22Sl, mb22Bl, fun x y => (x, y)⟩ := by
  intro x y hz
  obtain ⟨l, k, s, _, x, j, _⟩ := x
  obtain ⟨⟨_, _, _, _, _⟩, ⟨k1, h1, _⟩, ⟨k2, h2, _⟩, ⟨k3, _, _⟩, ⟨k4, h4, _⟩, m1, m2, m4, _⟩ := y
  refine (mb22Form l k s x j k1 h1 k2 h2 k3 k4 h4 m1 m2 m4 _ _ _).mpr ?_
  obtain ⟨q, hj, hq, hx, hs, k0, kle, q1, q2, q3, q4, g1, g2, g4, L0, hT⟩ := hz
  obtain rfl : s = 4 := hs
  obtain rfl : k = k1 := q1.symm
  obtain rfl : k = k2 := q2.symm
  obtain rfl : k = k3 := q3.symm
  obtain rfl : k = k4 := q4.symm
  obtain rfl : h1 = (m1.length, m1.length) := g1
  obtain rfl : h2 = (m2.length, m2.length) := g2
  obtain rfl : h4 = (m4.length, m4.length) := g4
  obtain rfl : j = (q : Int) - 1 := hj
  rw [ifp_ge]
  split
  · rename_i h
    obtain ⟨r, rfl⟩ : ∃ r : Nat, q = r + 1 := ⟨q - 1, by omega⟩
    have e : (((r + 1 : Nat) : Int) - 1) = (r : Int) := by omega
    have hrl : r < x.length := by omega
    simp only [e, natOf_nat]
    have hl4 := hT.len
    have hl5 := hT.l
    refine ⟨⟨by decide, by decide⟩, idx_ok hrl, _, nth_near0 hrl, _, nth_near1 hrl, Or.inl ⟨x[r], rfl, m4, rfl, (by first | exact trivial | exact rfl), ⟨rfl, hT.h, by omega, k0⟩, fun c d hr => ?_, trivial⟩⟩
    obtain ⟨b, e4, _⟩ := c
    obtain ⟨⟨x4, g4, _⟩, p4, _⟩ := d
    obtain ⟨he4, hx4, hg4, ha4⟩ := hr
    obtain rfl : k = x4 := hx4.symm
    obtain rfl : g4 = (p4.length, p4.length) := hg4
    repeat (refine And.intro True.intro ?_)
    have ew : wrapF .i64 (Int.sub (r : Int) 1) = (r : Int) - 1 := by rw [wsub (by omega) (by omega)]
    simp only [ew]
    refine Or.inl ⟨l, Wk.refl _, x, Wk.refl _, m1, rfl, m2, rfl, p4, rfl, (by first | exact trivial | exact rfl), ⟨r, rfl, by omega, hx, rfl, k0, kle, rfl, rfl, rfl, rfl, rfl, rfl, rfl, L0 ++ [x[r]], hT.top k0 ha4 rfl⟩, ?_, ?_⟩
    · show (((r : Int) - 1) + 1).toNat < (((r : Int)) + 1).toNat; omega
    · refine ⟨?_, ?_, trivial⟩
      · exact fun _ _ hr => by
          obtain ⟨a0, a1, a2, a3, a4, a5, a6, a7, a8, a9, a10, a11, hA⟩ := hr
          refine ⟨a0, a1, a2, a3, a4, a5, a6, a7, a8, a9, a10, a11, fun L1 h1 => ?_⟩
          have := hA (L1 ++ [x[r]]) (h1.top k0 ha4 rfl)
          rw [show (((r : Int) - 1 + 1).toNat) = r by omega, mb_step hrl] at this
          rwa [show ((((r : Int)) + 1).toNat) = r + 1 by omega]
      · exact fun _ _ hr => by
          obtain ⟨a0, a1, a2, a3, a4, a5, a6, a7, a8, a9, a10, hA⟩ := hr
          refine ⟨a0, a1, a2, a3, a4, a5, a6, a7, a8, a9, a10, fun L1 h1 => ?_⟩
          have := hA (L1 ++ [x[r]]) (h1.top k0 ha4 rfl)
          rw [show (((r : Int) - 1 + 1).toNat) = r by omega, mb_step hrl] at this
          rwa [show ((((r : Int)) + 1).toNat) = r + 1 by omega]
  · rename_i h
    obtain rfl : q = 0 := by omega
    refine Or.inl ⟨trivial, l, Wk.refl _, m1, rfl, m2, rfl, m4, rfl, (by first | exact trivial | exact rfl), rfl, rfl, rfl, rfl, rfl, rfl, rfl, rfl, rfl, rfl, rfl, rfl, fun L1 h1 => ?_⟩
    show TopOk k _ (topL k (L1 ++ (x.take 0).reverse))
    rw [List.take_zero, List.reverse_nil, List.append_nil]
    exact h1
theorem mb22Step0 : stepsOk Try.prog (KLS [(14, addK)] [] 30) 100 4 122 (loopBody Try.prog 4 26) 0 false mb22Fs (mb22Alts mb22R0 mb22R1) mb22Inv mb22Mu ⟨_, _, mb22Sl0, mb22Bl0, mb22Z0⟩ := by
  intro x y hz
  obtain ⟨l, k, s, _, x, j, _⟩ := x
  obtain ⟨⟨_, _, _, _, _⟩, ⟨k1, h1, _⟩, ⟨k2, h2, _⟩, ⟨k3, _, _⟩, ⟨k4, _, _⟩, m1, m2, _⟩ := y
  refine (mb22Form0 l k s x j k1 h1 k2 h2 k3 k4 m1 m2 _ _ _).mpr ?_
  obtain ⟨q, hj, hq, hx, hs, k0, kle, q1, q2, q3, q4, g1, g2, g4, L0, hT⟩ := hz
  obtain rfl : s = 4 := hs
  obtain rfl : k = k1 := q1.symm
  obtain rfl : k = k2 := q2.symm
  obtain rfl : k = k3 := q3.symm
  obtain rfl : k = k4 := q4.symm
  obtain rfl : h1 = (m1.length, m1.length) := g1
  obtain rfl : h2 = (m2.length, m2.length) := g2
  obtain rfl : j = (q : Int) - 1 := hj
  rw [ifp_ge]
  split
  · rename_i h
    obtain ⟨r, rfl⟩ : ∃ r : Nat, q = r + 1 := ⟨q - 1, by omega⟩
    have e : (((r + 1 : Nat) : Int) - 1) = (r : Int) := by omega
    have hrl : r < x.length := by omega
    simp only [e, natOf_nat]
    refine ⟨⟨by decide, by decide⟩, idx_ok hrl, _, nth_near0 hrl, _, nth_near1 hrl, Or.inr ⟨x[r], rfl, (by first | exact trivial | exact rfl), k0, fun c d hr => ?_, fun c d hr => ?_, trivial⟩⟩
    · obtain ⟨b, e4, _⟩ := c
      obtain ⟨⟨x4, _⟩, _⟩ := d
      obtain ⟨hb4, he4, hx4, hz4⟩ := hr
      obtain rfl : k = x4 := hx4.symm
      have hz4 : k = 0 := hz4
      have ha4 := add_0 (n := x[r]) hz4
      repeat (refine And.intro True.intro ?_)
      have ew : wrapF .i64 (Int.sub (r : Int) 1) = (r : Int) - 1 := by rw [wsub (by omega) (by omega)]
      simp only [ew]
      refine Or.inr ⟨l, Wk.refl _, x, Wk.refl _, m1, rfl, m2, rfl, (by first | exact trivial | exact rfl), ⟨r, rfl, by omega, hx, rfl, k0, kle, rfl, rfl, rfl, rfl, rfl, rfl, rfl, L0 ++ [x[r]], hT.top k0 ha4 rfl⟩, ?_, ?_⟩
      · show (((r : Int) - 1) + 1).toNat < (((r : Int)) + 1).toNat; omega
      · refine ⟨?_, ?_, trivial⟩
        · exact fun _ _ hr => by
            obtain ⟨a0, a1, a2, a3, a4, a5, a6, a7, a8, a9, a10, a11, hA⟩ := hr
            refine ⟨a0, a1, a2, a3, a4, a5, a6, a7, a8, a9, a10, a11, fun L1 h1 => ?_⟩
            have := hA (L1 ++ [x[r]]) (h1.top k0 ha4 rfl)
            rw [show (((r : Int) - 1 + 1).toNat) = r by omega, mb_step hrl] at this
            rwa [show ((((r : Int)) + 1).toNat) = r + 1 by omega]
        · exact fun _ _ hr => by
            obtain ⟨a0, a1, a2, a3, a4, a5, a6, a7, a8, a9, a10, hA⟩ := hr
            refine ⟨a0, a1, a2, a3, a4, a5, a6, a7, a8, a9, a10, fun L1 h1 => ?_⟩
            have := hA (L1 ++ [x[r]]) (h1.top k0 ha4 rfl)
            rw [show (((r : Int) - 1 + 1).toNat) = r by omega, mb_step hrl] at this
            rwa [show ((((r : Int)) + 1).toNat) = r + 1 by omega]
    · obtain ⟨b, e4, _⟩ := c
      obtain ⟨⟨x4, g4, _⟩, p4, _⟩ := d
      obtain ⟨hb4, he4, hx4, hz4, hg4, hp4⟩ := hr
      obtain rfl : k = x4 := hx4.symm
      obtain rfl : p4 = [x[r]] := hp4
      obtain rfl : g4 = (1, 1) := hg4
      have hz4 : 0 < k := hz4
      have ha4 := add_1 (n := x[r]) hz4
      repeat (refine And.intro True.intro ?_)
      have ew : wrapF .i64 (Int.sub (r : Int) 1) = (r : Int) - 1 := by rw [wsub (by omega) (by omega)]
      simp only [ew]
      refine Or.inl ⟨l, Wk.refl _, x, Wk.refl _, m1, rfl, m2, rfl, [x[r]], rfl, (by first | exact trivial | exact rfl), ⟨r, rfl, by omega, hx, rfl, k0, kle, rfl, rfl, rfl, rfl, rfl, rfl, rfl, L0 ++ [x[r]], hT.top k0 ha4 rfl⟩, ?_, ?_⟩
      · show (((r : Int) - 1) + 1).toNat < (((r : Int)) + 1).toNat; omega
      · refine ⟨?_, ?_, trivial⟩
        · exact fun _ _ hr => by
            obtain ⟨a0, a1, a2, a3, a4, a5, a6, a7, a8, a9, a10, a11, hA⟩ := hr
            refine ⟨a0, a1, a2, a3, a4, a5, a6, a7, a8, a9, a10, a11, fun L1 h1 => ?_⟩
            have := hA (L1 ++ [x[r]]) (h1.top k0 ha4 rfl)
            rw [show (((r : Int) - 1 + 1).toNat) = r by omega, mb_step hrl] at this
            rwa [show ((((r : Int)) + 1).toNat) = r + 1 by omega]
        · exact fun _ _ hr => by
            obtain ⟨a0, a1, a2, a3, a4, a5, a6, a7, a8, a9, a10, hA⟩ := hr
            refine ⟨a0, a1, a2, a3, a4, a5, a6, a7, a8, a9, a10, fun L1 h1 => ?_⟩
            have := hA (L1 ++ [x[r]]) (h1.top k0 ha4 rfl)
            rw [show (((r : Int) - 1 + 1).toNat) = r by omega, mb_step hrl] at this
            rwa [show ((((r : Int)) + 1).toNat) = r + 1 by omega]
  · rename_i h
    obtain rfl : q = 0 := by omega
    refine Or.inr ⟨trivial, l, Wk.refl _, m1, rfl, m2, rfl, (by first | exact trivial | exact rfl), rfl, rfl, rfl, rfl, rfl, rfl, rfl, rfl, rfl, rfl, rfl, fun L1 h1 => ?_⟩
    show TopOk k _ (topL k (L1 ++ (x.take 0).reverse))
    rw [List.take_zero, List.reverse_nil, List.append_nil]
    exact h1
theorem mb22Ok : LoopOk Try.prog 4 122 (.loop (loopBody Try.prog 4 26)) mb22C := loop_ok mb22Mu mixed (KLS_ok (cc_cons addCc (cc_nil))) rfl (steps_cons mb22Step (steps_cons mb22Step0 (steps_nil)))

/-! The loop mb31 of wayfinder/wayfinderlaw04.RankMerges. -/
abbrev mb31Z := ((List Near) × Int × Nat × Unit × (List Near) × Int × Unit) × ((Unit × Unit × Unit × Unit × Unit) × (Int × (Nat × Nat) × Unit) × (Int × Unit × Unit) × (Int × (Nat × Nat) × Unit) × (Int × (Nat × Nat) × Unit) × (List Near) × (List Near) × (List Near) × Unit)
noncomputable def mb31Sl : Tel ((List Near) × Int × Nat × Unit × (List Near) × Int × Unit) := .cons 0 (.lst En) (.cons 2 (.int .i64) (.cons 7 (.sl 0 1) (.cons 12 (.num .i64 1) (.cons 13 (.lst En) (.cons 14 (.int .i64) (.nil))))))
noncomputable def mb31Bl : BTel ((Unit × Unit × Unit × Unit × Unit) × (Int × (Nat × Nat) × Unit) × (Int × Unit × Unit) × (Int × (Nat × Nat) × Unit) × (Int × (Nat × Nat) × Unit) × (List Near) × (List Near) × (List Near) × Unit) := .cons (.row (.cons 0 (.ptr 1) (.cons 1 (.ptr 2) (.cons 2 (.ptr 3) (.cons 3 (.ptr 4) (.nil)))))) (.cons (.row (.cons 0 (.int .i64) (.cons 1 (.slq 5 2) (.nil)))) (.cons (.row (.cons 0 (.int .i64) (.cons 1 (.nilS) (.nil)))) (.cons (.row (.cons 0 (.int .i64) (.cons 1 (.slq 6 2) (.nil)))) (.cons (.row (.cons 0 (.int .i64) (.cons 1 (.slq 7 2) (.nil)))) (.cons (.rows En 30) (.cons (.rows En 30) (.cons (.rows En 30) (.nil))))))))
noncomputable def mb31Sl0 : Tel ((List Near) × Int × Nat × Unit × (List Near) × Int × Unit) := .cons 0 (.lst En) (.cons 2 (.int .i64) (.cons 7 (.sl 0 1) (.cons 12 (.num .i64 1) (.cons 13 (.lst En) (.cons 14 (.int .i64) (.nil))))))
noncomputable def mb31Bl0 : BTel ((Unit × Unit × Unit × Unit × Unit) × (Int × (Nat × Nat) × Unit) × (Int × Unit × Unit) × (Int × (Nat × Nat) × Unit) × (Int × Unit × Unit) × (List Near) × (List Near) × Unit) := .cons (.row (.cons 0 (.ptr 1) (.cons 1 (.ptr 2) (.cons 2 (.ptr 3) (.cons 3 (.ptr 4) (.nil)))))) (.cons (.row (.cons 0 (.int .i64) (.cons 1 (.slq 5 2) (.nil)))) (.cons (.row (.cons 0 (.int .i64) (.cons 1 (.nilS) (.nil)))) (.cons (.row (.cons 0 (.int .i64) (.cons 1 (.slq 6 2) (.nil)))) (.cons (.row (.cons 0 (.int .i64) (.cons 1 (.nilS) (.nil)))) (.cons (.rows En 30) (.cons (.rows En 30) (.nil)))))))
noncomputable def mb31Z0 : ((List Near) × Int × Nat × Unit × (List Near) × Int × Unit) → ((Unit × Unit × Unit × Unit × Unit) × (Int × (Nat × Nat) × Unit) × (Int × Unit × Unit) × (Int × (Nat × Nat) × Unit) × (Int × Unit × Unit) × (List Near) × (List Near) × Unit) → mb31Z := fun (l, (k, (s, ((), (x, (j, ())))))) (((), ((), ((), ((), ())))), ((k1, (h1, ())), ((k2, ((), ())), ((k3, (h3, ())), ((k4, ((), ())), (m1, (m3, ()))))))) => ((l, (k, (s, ((), (x, (j, ())))))), (((), ((), ((), ((), ())))), ((k1, (h1, ())), ((k2, ((), ())), ((k3, (h3, ())), ((k4, ((0, 0), ())), (m1, (m3, ([], ())))))))))
noncomputable def mb31Fs : List (LForm mb31Z) := [⟨_, _, mb31Sl, mb31Bl, fun x y => (x, y)⟩, ⟨_, _, mb31Sl0, mb31Bl0, mb31Z0⟩]
noncomputable def mb31Alts (R0 : mb31Z → ((List Near) × Int × Nat × Unit × Unit) → ((Unit × Unit × Unit × Unit × Unit) × (Int × (Nat × Nat) × Unit) × (Int × Unit × Unit) × (Int × (Nat × Nat) × Unit) × (Int × (Nat × Nat) × Unit) × (List Near) × (List Near) × (List Near) × Unit) → Prop) (R1 : mb31Z → ((List Near) × Int × Nat × Unit × Unit) → ((Unit × Unit × Unit × Unit × Unit) × (Int × (Nat × Nat) × Unit) × (Int × Unit × Unit) × (Int × (Nat × Nat) × Unit) × (Int × Unit × Unit) × (List Near) × (List Near) × Unit) → Prop) : List (Alt mb31Z) := [⟨.exit 6, (List Near) × Int × Nat × Unit × Unit, (Unit × Unit × Unit × Unit × Unit) × (Int × (Nat × Nat) × Unit) × (Int × Unit × Unit) × (Int × (Nat × Nat) × Unit) × (Int × (Nat × Nat) × Unit) × (List Near) × (List Near) × (List Near) × Unit, .cons 0 (.lst En) (.cons 2 (.int .i64) (.cons 7 (.sl 0 1) (.cons 12 (.num .i64 1) (.nil)))), .cons (.row (.cons 0 (.ptr 1) (.cons 1 (.ptr 2) (.cons 2 (.ptr 3) (.cons 3 (.ptr 4) (.nil)))))) (.cons (.row (.cons 0 (.int .i64) (.cons 1 (.slq 5 2) (.nil)))) (.cons (.row (.cons 0 (.int .i64) (.cons 1 (.nilS) (.nil)))) (.cons (.row (.cons 0 (.int .i64) (.cons 1 (.slq 6 2) (.nil)))) (.cons (.row (.cons 0 (.int .i64) (.cons 1 (.slq 7 2) (.nil)))) (.cons (.rows En 30) (.cons (.rows En 30) (.cons (.rows En 30) (.nil)))))))), R0⟩, ⟨.exit 6, (List Near) × Int × Nat × Unit × Unit, (Unit × Unit × Unit × Unit × Unit) × (Int × (Nat × Nat) × Unit) × (Int × Unit × Unit) × (Int × (Nat × Nat) × Unit) × (Int × Unit × Unit) × (List Near) × (List Near) × Unit, .cons 0 (.lst En) (.cons 2 (.int .i64) (.cons 7 (.sl 0 1) (.cons 12 (.num .i64 1) (.nil)))), .cons (.row (.cons 0 (.ptr 1) (.cons 1 (.ptr 2) (.cons 2 (.ptr 3) (.cons 3 (.ptr 4) (.nil)))))) (.cons (.row (.cons 0 (.int .i64) (.cons 1 (.slq 5 2) (.nil)))) (.cons (.row (.cons 0 (.int .i64) (.cons 1 (.nilS) (.nil)))) (.cons (.row (.cons 0 (.int .i64) (.cons 1 (.slq 6 2) (.nil)))) (.cons (.row (.cons 0 (.int .i64) (.cons 1 (.nilS) (.nil)))) (.cons (.rows En 30) (.cons (.rows En 30) (.nil))))))), R1⟩]

theorem mb31Form (l : List Near) (k : Int) (s : Nat) (x : List Near) (j : Int) (k1 : Int) (h1 : Nat × Nat) (k2 : Int) (k3 : Int) (h3 : Nat × Nat) (k4 : Int) (h4 : Nat × Nat) (m1 : List Near) (m3 : List Near) (m4 : List Near) (N : mb31Z → Prop) (R0 : mb31Z → ((List Near) × Int × Nat × Unit × Unit) → ((Unit × Unit × Unit × Unit × Unit) × (Int × (Nat × Nat) × Unit) × (Int × Unit × Unit) × (Int × (Nat × Nat) × Unit) × (Int × (Nat × Nat) × Unit) × (List Near) × (List Near) × (List Near) × Unit) → Prop) (R1 : mb31Z → ((List Near) × Int × Nat × Unit × Unit) → ((Unit × Unit × Unit × Unit × Unit) × (Int × (Nat × Nat) × Unit) × (Int × Unit × Unit) × (Int × (Nat × Nat) × Unit) × (Int × Unit × Unit) × (List Near) × (List Near) × Unit) → Prop) : ((runW Try.prog (KLS [(14, addK)] [] 30) 100).code none 4 122 (loopBody Try.prog 4 26) (mkT (mb31Sl.av id (l, (k, (s, ((), (x, (j, ())))))))) [] (stL false (mb31Bl.obs id (((), ((), ((), ((), ())))), ((k1, (h1, ())), ((k2, ((), ())), ((k3, (h3, ())), ((k4, (h4, ())), (m1, (m3, (m4, ())))))))))) (postL 0 mb31Fs (mb31Alts R0 R1) ((l, (k, (s, ((), (x, (j, ())))))), (((), ((), ((), ((), ())))), ((k1, (h1, ())), ((k2, ((), ())), ((k3, (h3, ())), ((k4, (h4, ())), (m1, (m3, (m4, ()))))))))) N)) =
  ( ifp (leInt (0 : Int) j) (idxOk (3 : Int) s ∧ idxOk j x.length ∧ ∃ (x_1 : Int), nth (((natOf j).mul (2 : Nat)).add (0 : Nat)) (List.flatMap En.f x) = some
  (AV.int IntKind.i64 x_1) ∧ ∃ (x_2 : Int), nth (((natOf j).mul (2 : Nat)).add (1 : Nat)) (List.flatMap En.f x) = some (AV.int IntKind.i64 x_2) ∧ ((∃ (a : Near),
  AV.agg [AV.int IntKind.i64 x_1, AV.int IntKind.i64 x_2] = AV.agg [AV.int IntKind.i64 a.fst, AV.int IntKind.i64 a.snd.fst] ∧ ∃ l_1, FE m4 l_1 ∧ true = true ∧
  add1Pre (((), a, ()), (k4, (h4.fst, h4.snd), ()), l_1, ()) ∧ (∀ c d, add1R0 (((), a, ()), (k4, (h4.fst, h4.snd), ()), l_1, ()) c d → True ∧ True ∧ True ∧ ((∃
  l_2, VW l l_2 ∧ ∃ l, VW x l ∧ ∃ l_3, FE m1 l_3 ∧ ∃ l_4, FE m3 l_4 ∧ ∃ l_5, FE d.2.1 l_5 ∧ true = true ∧ N ((l_2, k, s, (), l, wrapF IntKind.i64 (j.sub (1 :
  Int)), ()), ((), (), (), (), ()), (k1, (h1.fst, h1.snd), ()), (k2, (), ()), (k3, (h3.fst, h3.snd), ()), (d.1.1, (d.1.2.1.fst, d.1.2.1.snd), ()), l_3, l_4, l_5,
  ())) ∨ ∃ l_2, VW l l_2 ∧ ∃ l, VW x l ∧ False)) ∧ True) ∨ ∃ (a : Near), AV.agg [AV.int IntKind.i64 x_1, AV.int IntKind.i64 x_2] = AV.agg [AV.int IntKind.i64
  a.fst, AV.int IntKind.i64 a.snd.fst] ∧ False)) ((True ∧ ∃ l_1, VW l l_1 ∧ ∃ l_2, FE m1 l_2 ∧ ∃ l_3, FE m3 l_3 ∧ ∃ l_4, FE m4 l_4 ∧ true = true ∧ R0 ((l, k, s,
  (), x, j, ()), ((), (), (), (), ()), (k1, h1, ()), (k2, (), ()), (k3, h3, ()), (k4, h4, ()), m1, m3, m4, ()) (l_1, k, s, (), ()) (((), (), (), (), ()), (k1,
  (h1.fst, h1.snd), ()), (k2, (), ()), (k3, (h3.fst, h3.snd), ()), (k4, (h4.fst, h4.snd), ()), l_2, l_3, l_4, ())) ∨ True ∧ ∃ l_1, VW l l_1 ∧ False)) := by kernel_rfl

theorem mb31Form0 (l : List Near) (k : Int) (s : Nat) (x : List Near) (j : Int) (k1 : Int) (h1 : Nat × Nat) (k2 : Int) (k3 : Int) (h3 : Nat × Nat) (k4 : Int) (m1 : List Near) (m3 : List Near) (N : mb31Z → Prop) (R0 : mb31Z → ((List Near) × Int × Nat × Unit × Unit) → ((Unit × Unit × Unit × Unit × Unit) × (Int × (Nat × Nat) × Unit) × (Int × Unit × Unit) × (Int × (Nat × Nat) × Unit) × (Int × (Nat × Nat) × Unit) × (List Near) × (List Near) × (List Near) × Unit) → Prop) (R1 : mb31Z → ((List Near) × Int × Nat × Unit × Unit) → ((Unit × Unit × Unit × Unit × Unit) × (Int × (Nat × Nat) × Unit) × (Int × Unit × Unit) × (Int × (Nat × Nat) × Unit) × (Int × Unit × Unit) × (List Near) × (List Near) × Unit) → Prop) : ((runW Try.prog (KLS [(14, addK)] [] 30) 100).code none 4 122 (loopBody Try.prog 4 26) (mkT (mb31Sl0.av id (l, (k, (s, ((), (x, (j, ())))))))) [] (stL false (mb31Bl0.obs id (((), ((), ((), ((), ())))), ((k1, (h1, ())), ((k2, ((), ())), ((k3, (h3, ())), ((k4, ((), ())), (m1, (m3, ()))))))))) (postL 0 mb31Fs (mb31Alts R0 R1) (mb31Z0 (l, (k, (s, ((), (x, (j, ())))))) (((), ((), ((), ((), ())))), ((k1, (h1, ())), ((k2, ((), ())), ((k3, (h3, ())), ((k4, ((), ())), (m1, (m3, ())))))))) N)) =
  ( ifp (leInt (0 : Int) j) (idxOk (3 : Int) s ∧ idxOk j x.length ∧ ∃ (x_1 : Int), nth (((natOf j).mul (2 : Nat)).add (0 : Nat)) (List.flatMap En.f x) = some
  (AV.int IntKind.i64 x_1) ∧ ∃ (x_2 : Int), nth (((natOf j).mul (2 : Nat)).add (1 : Nat)) (List.flatMap En.f x) = some (AV.int IntKind.i64 x_2) ∧ ((∃ (a : Near),
  AV.agg [AV.int IntKind.i64 x_1, AV.int IntKind.i64 x_2] = AV.agg [AV.int IntKind.i64 a.fst, AV.int IntKind.i64 a.snd.fst] ∧ False) ∨ ∃ (a : Near), AV.agg
  [AV.int IntKind.i64 x_1, AV.int IntKind.i64 x_2] = AV.agg [AV.int IntKind.i64 a.fst, AV.int IntKind.i64 a.snd.fst] ∧ true = true ∧ add0Pre (((), a, ()), (k4,
  (), ()), ()) ∧ (∀ c d, add0R0 (((), a, ()), (k4, (), ()), ()) c d → True ∧ True ∧ True ∧ ((∃ l_1, VW l l_1 ∧ ∃ l, VW x l ∧ False) ∨ ∃ l_1, VW l l_1 ∧ ∃ l, VW x
  l ∧ ∃ l_2, FE m1 l_2 ∧ ∃ l_3, FE m3 l_3 ∧ true = true ∧ N ((l_1, k, s, (), l, wrapF IntKind.i64 (j.sub (1 : Int)), ()), ((), (), (), (), ()), (k1, (h1.fst,
  h1.snd), ()), (k2, (), ()), (k3, (h3.fst, h3.snd), ()), (d.1.1, ((0 : Nat), (0 : Nat)), ()), l_2, l_3, [], ()))) ∧ (∀ c d, add0R1 (((), a, ()), (k4, (), ()),
  ()) c d → True ∧ True ∧ True ∧ ((∃ l_1, VW l l_1 ∧ ∃ l, VW x l ∧ ∃ l_2, FE m1 l_2 ∧ ∃ l_3, FE m3 l_3 ∧ ∃ l_4, FE d.2.1 l_4 ∧ true = true ∧ N ((l_1, k, s, (),
  l, wrapF IntKind.i64 (j.sub (1 : Int)), ()), ((), (), (), (), ()), (k1, (h1.fst, h1.snd), ()), (k2, (), ()), (k3, (h3.fst, h3.snd), ()), (d.1.1, (d.1.2.1.fst,
  d.1.2.1.snd), ()), l_2, l_3, l_4, ())) ∨ ∃ l_1, VW l l_1 ∧ ∃ l, VW x l ∧ False)) ∧ True)) ((True ∧ ∃ l_1, VW l l_1 ∧ False) ∨ True ∧ ∃ l_1, VW l l_1 ∧ ∃ l_2,
  FE m1 l_2 ∧ ∃ l_3, FE m3 l_3 ∧ true = true ∧ R1 ((l, k, s, (), x, j, ()), ((), (), (), (), ()), (k1, h1, ()), (k2, (), ()), (k3, h3, ()), (k4, ((0 : Nat), (0 :
  Nat)), ()), m1, m3, [], ()) (l_1, k, s, (), ()) (((), (), (), (), ()), (k1, (h1.fst, h1.snd), ()), (k2, (), ()), (k3, (h3.fst, h3.snd), ()), (k4, (), ()), l_2,
  l_3, ()))) := by kernel_rfl

def mb31Inv : mb31Z → Prop := fun ((l, (k, (s, ((), (x, (j, ())))))), (((), ((), ((), ((), ())))), ((k1, (h1, ())), ((k2, ((), ())), ((k3, (h3, ())), ((k4, (h4, ())), (m1, (m3, (m4, ()))))))))) => ∃ q : Nat, j = (q : Int) - 1 ∧ q ≤ x.length ∧ x.length ≤ 150 ∧ s = 4 ∧ 0 ≤ k ∧ k ≤ 150 ∧ k1 = k ∧ k2 = k ∧ k3 = k ∧ k4 = k ∧ h1 = (m1.length, m1.length) ∧ h3 = (m3.length, m3.length) ∧ h4 = (m4.length, m4.length) ∧ ∃ L0, TopOk k m4 (topL k L0)
def mb31Mu : mb31Z → Nat := fun ((l, (k, (s, ((), (x, (j, ())))))), (((), ((), ((), ((), ())))), ((k1, (h1, ())), ((k2, ((), ())), ((k3, (h3, ())), ((k4, (h4, ())), (m1, (m3, (m4, ()))))))))) => (j + 1).toNat
def mb31R0 : mb31Z → ((List Near) × Int × Nat × Unit × Unit) → ((Unit × Unit × Unit × Unit × Unit) × (Int × (Nat × Nat) × Unit) × (Int × Unit × Unit) × (Int × (Nat × Nat) × Unit) × (Int × (Nat × Nat) × Unit) × (List Near) × (List Near) × (List Near) × Unit) → Prop := fun ((l, (k, (s, ((), (x, (j, ())))))), (((), ((), ((), ((), ())))), ((k1, (h1, ())), ((k2, ((), ())), ((k3, (h3, ())), ((k4, (h4, ())), (m1, (m3, (m4, ()))))))))) (l2, y, s2, _) (_, (x1, g1, _), (x2, _), (x3, g3, _), (x4, g4, _), n1, n3, n4, _) => l2 = l ∧ y = k ∧ s2 = 4 ∧ x1 = k ∧ x2 = k ∧ x3 = k ∧ x4 = k ∧ g1 = (m1.length, m1.length) ∧ n1 = m1 ∧ g3 = (m3.length, m3.length) ∧ n3 = m3 ∧ g4 = (n4.length, n4.length) ∧ ∀ L0, TopOk k m4 (topL k L0) → TopOk k n4 (topL k (L0 ++ (x.take (j + 1).toNat).reverse))
def mb31R1 : mb31Z → ((List Near) × Int × Nat × Unit × Unit) → ((Unit × Unit × Unit × Unit × Unit) × (Int × (Nat × Nat) × Unit) × (Int × Unit × Unit) × (Int × (Nat × Nat) × Unit) × (Int × Unit × Unit) × (List Near) × (List Near) × Unit) → Prop := fun ((l, (k, (s, ((), (x, (j, ())))))), (((), ((), ((), ((), ())))), ((k1, (h1, ())), ((k2, ((), ())), ((k3, (h3, ())), ((k4, (h4, ())), (m1, (m3, (m4, ()))))))))) (l2, y, s2, _) (_, (x1, g1, _), (x2, _), (x3, g3, _), (x4, _), n1, n3, _) => l2 = l ∧ y = k ∧ s2 = 4 ∧ x1 = k ∧ x2 = k ∧ x3 = k ∧ x4 = k ∧ g1 = (m1.length, m1.length) ∧ n1 = m1 ∧ g3 = (m3.length, m3.length) ∧ n3 = m3 ∧ ∀ L0, TopOk k m4 (topL k L0) → TopOk k [] (topL k (L0 ++ (x.take (j + 1).toNat).reverse))
noncomputable def mb31C : LoopC := loopC 0 mb31Fs (mb31Alts mb31R0 mb31R1) mb31Inv

theorem mb31Step : stepsOk Try.prog (KLS [(14, addK)] [] 30) 100 4 122 (loopBody Try.prog 4 26) 0 false mb31Fs (mb31Alts mb31R0 mb31R1) mb31Inv mb31Mu ⟨_, _, mb31Sl, mb31Bl, fun x y => (x, y)⟩ := by
  intro x y hz
  obtain ⟨l, k, s, _, x, j, _⟩ := x
  obtain ⟨⟨_, _, _, _, _⟩, ⟨k1, h1, _⟩, ⟨k2, _, _⟩, ⟨k3, h3, _⟩, ⟨k4, h4, _⟩, m1, m3, m4, _⟩ := y
  refine (mb31Form l k s x j k1 h1 k2 k3 h3 k4 h4 m1 m3 m4 _ _ _).mpr ?_
  obtain ⟨q, hj, hq, hx, hs, k0, kle, q1, q2, q3, q4, g1, g3, g4, L0, hT⟩ := hz
  obtain rfl : s = 4 := hs
  obtain rfl : k = k1 := q1.symm
  obtain rfl : k = k2 := q2.symm
  obtain rfl : k = k3 := q3.symm
  obtain rfl : k = k4 := q4.symm
  obtain rfl : h1 = (m1.length, m1.length) := g1
  obtain rfl : h3 = (m3.length, m3.length) := g3
  obtain rfl : h4 = (m4.length, m4.length) := g4
  obtain rfl : j = (q : Int) - 1 := hj
  rw [ifp_ge]
  split
  · rename_i h
    obtain ⟨r, rfl⟩ : ∃ r : Nat, q = r + 1 := ⟨q - 1, by omega⟩
    have e : (((r + 1 : Nat) : Int) - 1) = (r : Int) := by omega
    have hrl : r < x.length := by omega
    simp only [e, natOf_nat]
    have hl4 := hT.len
    have hl5 := hT.l
    refine ⟨⟨by decide, by decide⟩, idx_ok hrl, _, nth_near0 hrl, _, nth_near1 hrl, Or.inl ⟨x[r], rfl, m4, rfl, (by first | exact trivial | exact rfl), ⟨rfl, hT.h, by omega, k0⟩, fun c d hr => ?_, trivial⟩⟩
    obtain ⟨b, e4, _⟩ := c
    obtain ⟨⟨x4, g4, _⟩, p4, _⟩ := d
    obtain ⟨he4, hx4, hg4, ha4⟩ := hr
    obtain rfl : k = x4 := hx4.symm
    obtain rfl : g4 = (p4.length, p4.length) := hg4
    repeat (refine And.intro True.intro ?_)
    have ew : wrapF .i64 (Int.sub (r : Int) 1) = (r : Int) - 1 := by rw [wsub (by omega) (by omega)]
    simp only [ew]
    refine Or.inl ⟨l, Wk.refl _, x, Wk.refl _, m1, rfl, m3, rfl, p4, rfl, (by first | exact trivial | exact rfl), ⟨r, rfl, by omega, hx, rfl, k0, kle, rfl, rfl, rfl, rfl, rfl, rfl, rfl, L0 ++ [x[r]], hT.top k0 ha4 rfl⟩, ?_, ?_⟩
    · show (((r : Int) - 1) + 1).toNat < (((r : Int)) + 1).toNat; omega
    · refine ⟨?_, ?_, trivial⟩
      · exact fun _ _ hr => by
          obtain ⟨a0, a1, a2, a3, a4, a5, a6, a7, a8, a9, a10, a11, hA⟩ := hr
          refine ⟨a0, a1, a2, a3, a4, a5, a6, a7, a8, a9, a10, a11, fun L1 h1 => ?_⟩
          have := hA (L1 ++ [x[r]]) (h1.top k0 ha4 rfl)
          rw [show (((r : Int) - 1 + 1).toNat) = r by omega, mb_step hrl] at this
          rwa [show ((((r : Int)) + 1).toNat) = r + 1 by omega]
      · exact fun _ _ hr => by
          obtain ⟨a0, a1, a2, a3, a4, a5, a6, a7, a8, a9, a10, hA⟩ := hr
          refine ⟨a0, a1, a2, a3, a4, a5, a6, a7, a8, a9, a10, fun L1 h1 => ?_⟩
          have := hA (L1 ++ [x[r]]) (h1.top k0 ha4 rfl)
          rw [show (((r : Int) - 1 + 1).toNat) = r by omega, mb_step hrl] at this
          rwa [show ((((r : Int)) + 1).toNat) = r + 1 by omega]
  · rename_i h
    obtain rfl : q = 0 := by omega
    refine Or.inl ⟨trivial, l, Wk.refl _, m1, rfl, m3, rfl, m4, rfl, (by first | exact trivial | exact rfl), rfl, rfl, rfl, rfl, rfl, rfl, rfl, rfl, rfl, rfl, rfl, rfl, fun L1 h1 => ?_⟩
    show TopOk k _ (topL k (L1 ++ (x.take 0).reverse))
    rw [List.take_zero, List.reverse_nil, List.append_nil]
    exact h1
theorem mb31Step0 : stepsOk Try.prog (KLS [(14, addK)] [] 30) 100 4 122 (loopBody Try.prog 4 26) 0 false mb31Fs (mb31Alts mb31R0 mb31R1) mb31Inv mb31Mu ⟨_, _, mb31Sl0, mb31Bl0, mb31Z0⟩ := by
  intro x y hz
  obtain ⟨l, k, s, _, x, j, _⟩ := x
  obtain ⟨⟨_, _, _, _, _⟩, ⟨k1, h1, _⟩, ⟨k2, _, _⟩, ⟨k3, h3, _⟩, ⟨k4, _, _⟩, m1, m3, _⟩ := y
  refine (mb31Form0 l k s x j k1 h1 k2 k3 h3 k4 m1 m3 _ _ _).mpr ?_
  obtain ⟨q, hj, hq, hx, hs, k0, kle, q1, q2, q3, q4, g1, g3, g4, L0, hT⟩ := hz
  obtain rfl : s = 4 := hs
  obtain rfl : k = k1 := q1.symm
  obtain rfl : k = k2 := q2.symm
  obtain rfl : k = k3 := q3.symm
  obtain rfl : k = k4 := q4.symm
  obtain rfl : h1 = (m1.length, m1.length) := g1
  obtain rfl : h3 = (m3.length, m3.length) := g3
  obtain rfl : j = (q : Int) - 1 := hj
  rw [ifp_ge]
  split
  · rename_i h
    obtain ⟨r, rfl⟩ : ∃ r : Nat, q = r + 1 := ⟨q - 1, by omega⟩
    have e : (((r + 1 : Nat) : Int) - 1) = (r : Int) := by omega
    have hrl : r < x.length := by omega
    simp only [e, natOf_nat]
    refine ⟨⟨by decide, by decide⟩, idx_ok hrl, _, nth_near0 hrl, _, nth_near1 hrl, Or.inr ⟨x[r], rfl, (by first | exact trivial | exact rfl), k0, fun c d hr => ?_, fun c d hr => ?_, trivial⟩⟩
    · obtain ⟨b, e4, _⟩ := c
      obtain ⟨⟨x4, _⟩, _⟩ := d
      obtain ⟨hb4, he4, hx4, hz4⟩ := hr
      obtain rfl : k = x4 := hx4.symm
      have hz4 : k = 0 := hz4
      have ha4 := add_0 (n := x[r]) hz4
      repeat (refine And.intro True.intro ?_)
      have ew : wrapF .i64 (Int.sub (r : Int) 1) = (r : Int) - 1 := by rw [wsub (by omega) (by omega)]
      simp only [ew]
      refine Or.inr ⟨l, Wk.refl _, x, Wk.refl _, m1, rfl, m3, rfl, (by first | exact trivial | exact rfl), ⟨r, rfl, by omega, hx, rfl, k0, kle, rfl, rfl, rfl, rfl, rfl, rfl, rfl, L0 ++ [x[r]], hT.top k0 ha4 rfl⟩, ?_, ?_⟩
      · show (((r : Int) - 1) + 1).toNat < (((r : Int)) + 1).toNat; omega
      · refine ⟨?_, ?_, trivial⟩
        · exact fun _ _ hr => by
            obtain ⟨a0, a1, a2, a3, a4, a5, a6, a7, a8, a9, a10, a11, hA⟩ := hr
            refine ⟨a0, a1, a2, a3, a4, a5, a6, a7, a8, a9, a10, a11, fun L1 h1 => ?_⟩
            have := hA (L1 ++ [x[r]]) (h1.top k0 ha4 rfl)
            rw [show (((r : Int) - 1 + 1).toNat) = r by omega, mb_step hrl] at this
            rwa [show ((((r : Int)) + 1).toNat) = r + 1 by omega]
        · exact fun _ _ hr => by
            obtain ⟨a0, a1, a2, a3, a4, a5, a6, a7, a8, a9, a10, hA⟩ := hr
            refine ⟨a0, a1, a2, a3, a4, a5, a6, a7, a8, a9, a10, fun L1 h1 => ?_⟩
            have := hA (L1 ++ [x[r]]) (h1.top k0 ha4 rfl)
            rw [show (((r : Int) - 1 + 1).toNat) = r by omega, mb_step hrl] at this
            rwa [show ((((r : Int)) + 1).toNat) = r + 1 by omega]
    · obtain ⟨b, e4, _⟩ := c
      obtain ⟨⟨x4, g4, _⟩, p4, _⟩ := d
      obtain ⟨hb4, he4, hx4, hz4, hg4, hp4⟩ := hr
      obtain rfl : k = x4 := hx4.symm
      obtain rfl : p4 = [x[r]] := hp4
      obtain rfl : g4 = (1, 1) := hg4
      have hz4 : 0 < k := hz4
      have ha4 := add_1 (n := x[r]) hz4
      repeat (refine And.intro True.intro ?_)
      have ew : wrapF .i64 (Int.sub (r : Int) 1) = (r : Int) - 1 := by rw [wsub (by omega) (by omega)]
      simp only [ew]
      refine Or.inl ⟨l, Wk.refl _, x, Wk.refl _, m1, rfl, m3, rfl, [x[r]], rfl, (by first | exact trivial | exact rfl), ⟨r, rfl, by omega, hx, rfl, k0, kle, rfl, rfl, rfl, rfl, rfl, rfl, rfl, L0 ++ [x[r]], hT.top k0 ha4 rfl⟩, ?_, ?_⟩
      · show (((r : Int) - 1) + 1).toNat < (((r : Int)) + 1).toNat; omega
      · refine ⟨?_, ?_, trivial⟩
        · exact fun _ _ hr => by
            obtain ⟨a0, a1, a2, a3, a4, a5, a6, a7, a8, a9, a10, a11, hA⟩ := hr
            refine ⟨a0, a1, a2, a3, a4, a5, a6, a7, a8, a9, a10, a11, fun L1 h1 => ?_⟩
            have := hA (L1 ++ [x[r]]) (h1.top k0 ha4 rfl)
            rw [show (((r : Int) - 1 + 1).toNat) = r by omega, mb_step hrl] at this
            rwa [show ((((r : Int)) + 1).toNat) = r + 1 by omega]
        · exact fun _ _ hr => by
            obtain ⟨a0, a1, a2, a3, a4, a5, a6, a7, a8, a9, a10, hA⟩ := hr
            refine ⟨a0, a1, a2, a3, a4, a5, a6, a7, a8, a9, a10, fun L1 h1 => ?_⟩
            have := hA (L1 ++ [x[r]]) (h1.top k0 ha4 rfl)
            rw [show (((r : Int) - 1 + 1).toNat) = r by omega, mb_step hrl] at this
            rwa [show ((((r : Int)) + 1).toNat) = r + 1 by omega]
  · rename_i h
    obtain rfl : q = 0 := by omega
    refine Or.inr ⟨trivial, l, Wk.refl _, m1, rfl, m3, rfl, (by first | exact trivial | exact rfl), rfl, rfl, rfl, rfl, rfl, rfl, rfl, rfl, rfl, rfl, rfl, fun L1 h1 => ?_⟩
    show TopOk k _ (topL k (L1 ++ (x.take 0).reverse))
    rw [List.take_zero, List.reverse_nil, List.append_nil]
    exact h1
theorem mb31Ok : LoopOk Try.prog 4 122 (.loop (loopBody Try.prog 4 26)) mb31C := loop_ok mb31Mu mixed (KLS_ok (cc_cons addCc (cc_nil))) rfl (steps_cons mb31Step (steps_cons mb31Step0 (steps_nil)))

/-! The loop mb32 of wayfinder/wayfinderlaw04.RankMerges. -/
abbrev mb32Z := ((List Near) × Int × Nat × Unit × (List Near) × Int × Unit) × ((Unit × Unit × Unit × Unit × Unit) × (Int × (Nat × Nat) × Unit) × (Int × Unit × Unit) × (Int × (Nat × Nat) × Unit) × (Int × (Nat × Nat) × Unit) × (List Near) × (List Near) × (List Near) × Unit)
noncomputable def mb32Sl : Tel ((List Near) × Int × Nat × Unit × (List Near) × Int × Unit) := .cons 0 (.lst En) (.cons 2 (.int .i64) (.cons 7 (.sl 0 1) (.cons 12 (.num .i64 2) (.cons 13 (.lst En) (.cons 14 (.int .i64) (.nil))))))
noncomputable def mb32Bl : BTel ((Unit × Unit × Unit × Unit × Unit) × (Int × (Nat × Nat) × Unit) × (Int × Unit × Unit) × (Int × (Nat × Nat) × Unit) × (Int × (Nat × Nat) × Unit) × (List Near) × (List Near) × (List Near) × Unit) := .cons (.row (.cons 0 (.ptr 1) (.cons 1 (.ptr 2) (.cons 2 (.ptr 3) (.cons 3 (.ptr 4) (.nil)))))) (.cons (.row (.cons 0 (.int .i64) (.cons 1 (.slq 5 2) (.nil)))) (.cons (.row (.cons 0 (.int .i64) (.cons 1 (.nilS) (.nil)))) (.cons (.row (.cons 0 (.int .i64) (.cons 1 (.slq 6 2) (.nil)))) (.cons (.row (.cons 0 (.int .i64) (.cons 1 (.slq 7 2) (.nil)))) (.cons (.rows En 30) (.cons (.rows En 30) (.cons (.rows En 30) (.nil))))))))
noncomputable def mb32Sl0 : Tel ((List Near) × Int × Nat × Unit × (List Near) × Int × Unit) := .cons 0 (.lst En) (.cons 2 (.int .i64) (.cons 7 (.sl 0 1) (.cons 12 (.num .i64 2) (.cons 13 (.lst En) (.cons 14 (.int .i64) (.nil))))))
noncomputable def mb32Bl0 : BTel ((Unit × Unit × Unit × Unit × Unit) × (Int × (Nat × Nat) × Unit) × (Int × Unit × Unit) × (Int × (Nat × Nat) × Unit) × (Int × Unit × Unit) × (List Near) × (List Near) × Unit) := .cons (.row (.cons 0 (.ptr 1) (.cons 1 (.ptr 2) (.cons 2 (.ptr 3) (.cons 3 (.ptr 4) (.nil)))))) (.cons (.row (.cons 0 (.int .i64) (.cons 1 (.slq 5 2) (.nil)))) (.cons (.row (.cons 0 (.int .i64) (.cons 1 (.nilS) (.nil)))) (.cons (.row (.cons 0 (.int .i64) (.cons 1 (.slq 6 2) (.nil)))) (.cons (.row (.cons 0 (.int .i64) (.cons 1 (.nilS) (.nil)))) (.cons (.rows En 30) (.cons (.rows En 30) (.nil)))))))
noncomputable def mb32Z0 : ((List Near) × Int × Nat × Unit × (List Near) × Int × Unit) → ((Unit × Unit × Unit × Unit × Unit) × (Int × (Nat × Nat) × Unit) × (Int × Unit × Unit) × (Int × (Nat × Nat) × Unit) × (Int × Unit × Unit) × (List Near) × (List Near) × Unit) → mb32Z := fun (l, (k, (s, ((), (x, (j, ())))))) (((), ((), ((), ((), ())))), ((k1, (h1, ())), ((k2, ((), ())), ((k3, (h3, ())), ((k4, ((), ())), (m1, (m3, ()))))))) => ((l, (k, (s, ((), (x, (j, ())))))), (((), ((), ((), ((), ())))), ((k1, (h1, ())), ((k2, ((), ())), ((k3, (h3, ())), ((k4, ((0, 0), ())), (m1, (m3, ([], ())))))))))
noncomputable def mb32Fs : List (LForm mb32Z) := [⟨_, _, mb32Sl, mb32Bl, fun x y => (x, y)⟩, ⟨_, _, mb32Sl0, mb32Bl0, mb32Z0⟩]
noncomputable def mb32Alts (R0 : mb32Z → ((List Near) × Int × Nat × Unit × Unit) → ((Unit × Unit × Unit × Unit × Unit) × (Int × (Nat × Nat) × Unit) × (Int × Unit × Unit) × (Int × (Nat × Nat) × Unit) × (Int × (Nat × Nat) × Unit) × (List Near) × (List Near) × (List Near) × Unit) → Prop) (R1 : mb32Z → ((List Near) × Int × Nat × Unit × Unit) → ((Unit × Unit × Unit × Unit × Unit) × (Int × (Nat × Nat) × Unit) × (Int × Unit × Unit) × (Int × (Nat × Nat) × Unit) × (Int × Unit × Unit) × (List Near) × (List Near) × Unit) → Prop) : List (Alt mb32Z) := [⟨.exit 6, (List Near) × Int × Nat × Unit × Unit, (Unit × Unit × Unit × Unit × Unit) × (Int × (Nat × Nat) × Unit) × (Int × Unit × Unit) × (Int × (Nat × Nat) × Unit) × (Int × (Nat × Nat) × Unit) × (List Near) × (List Near) × (List Near) × Unit, .cons 0 (.lst En) (.cons 2 (.int .i64) (.cons 7 (.sl 0 1) (.cons 12 (.num .i64 2) (.nil)))), .cons (.row (.cons 0 (.ptr 1) (.cons 1 (.ptr 2) (.cons 2 (.ptr 3) (.cons 3 (.ptr 4) (.nil)))))) (.cons (.row (.cons 0 (.int .i64) (.cons 1 (.slq 5 2) (.nil)))) (.cons (.row (.cons 0 (.int .i64) (.cons 1 (.nilS) (.nil)))) (.cons (.row (.cons 0 (.int .i64) (.cons 1 (.slq 6 2) (.nil)))) (.cons (.row (.cons 0 (.int .i64) (.cons 1 (.slq 7 2) (.nil)))) (.cons (.rows En 30) (.cons (.rows En 30) (.cons (.rows En 30) (.nil)))))))), R0⟩, ⟨.exit 6, (List Near) × Int × Nat × Unit × Unit, (Unit × Unit × Unit × Unit × Unit) × (Int × (Nat × Nat) × Unit) × (Int × Unit × Unit) × (Int × (Nat × Nat) × Unit) × (Int × Unit × Unit) × (List Near) × (List Near) × Unit, .cons 0 (.lst En) (.cons 2 (.int .i64) (.cons 7 (.sl 0 1) (.cons 12 (.num .i64 2) (.nil)))), .cons (.row (.cons 0 (.ptr 1) (.cons 1 (.ptr 2) (.cons 2 (.ptr 3) (.cons 3 (.ptr 4) (.nil)))))) (.cons (.row (.cons 0 (.int .i64) (.cons 1 (.slq 5 2) (.nil)))) (.cons (.row (.cons 0 (.int .i64) (.cons 1 (.nilS) (.nil)))) (.cons (.row (.cons 0 (.int .i64) (.cons 1 (.slq 6 2) (.nil)))) (.cons (.row (.cons 0 (.int .i64) (.cons 1 (.nilS) (.nil)))) (.cons (.rows En 30) (.cons (.rows En 30) (.nil))))))), R1⟩]

theorem mb32Form (l : List Near) (k : Int) (s : Nat) (x : List Near) (j : Int) (k1 : Int) (h1 : Nat × Nat) (k2 : Int) (k3 : Int) (h3 : Nat × Nat) (k4 : Int) (h4 : Nat × Nat) (m1 : List Near) (m3 : List Near) (m4 : List Near) (N : mb32Z → Prop) (R0 : mb32Z → ((List Near) × Int × Nat × Unit × Unit) → ((Unit × Unit × Unit × Unit × Unit) × (Int × (Nat × Nat) × Unit) × (Int × Unit × Unit) × (Int × (Nat × Nat) × Unit) × (Int × (Nat × Nat) × Unit) × (List Near) × (List Near) × (List Near) × Unit) → Prop) (R1 : mb32Z → ((List Near) × Int × Nat × Unit × Unit) → ((Unit × Unit × Unit × Unit × Unit) × (Int × (Nat × Nat) × Unit) × (Int × Unit × Unit) × (Int × (Nat × Nat) × Unit) × (Int × Unit × Unit) × (List Near) × (List Near) × Unit) → Prop) : ((runW Try.prog (KLS [(14, addK)] [] 30) 100).code none 4 122 (loopBody Try.prog 4 26) (mkT (mb32Sl.av id (l, (k, (s, ((), (x, (j, ())))))))) [] (stL false (mb32Bl.obs id (((), ((), ((), ((), ())))), ((k1, (h1, ())), ((k2, ((), ())), ((k3, (h3, ())), ((k4, (h4, ())), (m1, (m3, (m4, ())))))))))) (postL 0 mb32Fs (mb32Alts R0 R1) ((l, (k, (s, ((), (x, (j, ())))))), (((), ((), ((), ((), ())))), ((k1, (h1, ())), ((k2, ((), ())), ((k3, (h3, ())), ((k4, (h4, ())), (m1, (m3, (m4, ()))))))))) N)) =
  ( ifp (leInt (0 : Int) j) (idxOk (3 : Int) s ∧ idxOk j x.length ∧ ∃ (x_1 : Int), nth (((natOf j).mul (2 : Nat)).add (0 : Nat)) (List.flatMap En.f x) = some
  (AV.int IntKind.i64 x_1) ∧ ∃ (x_2 : Int), nth (((natOf j).mul (2 : Nat)).add (1 : Nat)) (List.flatMap En.f x) = some (AV.int IntKind.i64 x_2) ∧ ((∃ (a : Near),
  AV.agg [AV.int IntKind.i64 x_1, AV.int IntKind.i64 x_2] = AV.agg [AV.int IntKind.i64 a.fst, AV.int IntKind.i64 a.snd.fst] ∧ ∃ l_1, FE m4 l_1 ∧ true = true ∧
  add1Pre (((), a, ()), (k4, (h4.fst, h4.snd), ()), l_1, ()) ∧ (∀ c d, add1R0 (((), a, ()), (k4, (h4.fst, h4.snd), ()), l_1, ()) c d → True ∧ True ∧ True ∧ ((∃
  l_2, VW l l_2 ∧ ∃ l, VW x l ∧ ∃ l_3, FE m1 l_3 ∧ ∃ l_4, FE m3 l_4 ∧ ∃ l_5, FE d.2.1 l_5 ∧ true = true ∧ N ((l_2, k, s, (), l, wrapF IntKind.i64 (j.sub (1 :
  Int)), ()), ((), (), (), (), ()), (k1, (h1.fst, h1.snd), ()), (k2, (), ()), (k3, (h3.fst, h3.snd), ()), (d.1.1, (d.1.2.1.fst, d.1.2.1.snd), ()), l_3, l_4, l_5,
  ())) ∨ ∃ l_2, VW l l_2 ∧ ∃ l, VW x l ∧ False)) ∧ True) ∨ ∃ (a : Near), AV.agg [AV.int IntKind.i64 x_1, AV.int IntKind.i64 x_2] = AV.agg [AV.int IntKind.i64
  a.fst, AV.int IntKind.i64 a.snd.fst] ∧ False)) ((True ∧ ∃ l_1, VW l l_1 ∧ ∃ l_2, FE m1 l_2 ∧ ∃ l_3, FE m3 l_3 ∧ ∃ l_4, FE m4 l_4 ∧ true = true ∧ R0 ((l, k, s,
  (), x, j, ()), ((), (), (), (), ()), (k1, h1, ()), (k2, (), ()), (k3, h3, ()), (k4, h4, ()), m1, m3, m4, ()) (l_1, k, s, (), ()) (((), (), (), (), ()), (k1,
  (h1.fst, h1.snd), ()), (k2, (), ()), (k3, (h3.fst, h3.snd), ()), (k4, (h4.fst, h4.snd), ()), l_2, l_3, l_4, ())) ∨ True ∧ ∃ l_1, VW l l_1 ∧ False)) := by kernel_rfl

theorem mb32Form0 (l : List Near) (k : Int) (s : Nat) (x : List Near) (j : Int) (k1 : Int) (h1 : Nat × Nat) (k2 : Int) (k3 : Int) (h3 : Nat × Nat) (k4 : Int) (m1 : List Near) (m3 : List Near) (N : mb32Z → Prop) (R0 : mb32Z → ((List Near) × Int × Nat × Unit × Unit) → ((Unit × Unit × Unit × Unit × Unit) × (Int × (Nat × Nat) × Unit) × (Int × Unit × Unit) × (Int × (Nat × Nat) × Unit) × (Int × (Nat × Nat) × Unit) × (List Near) × (List Near) × (List Near) × Unit) → Prop) (R1 : mb32Z → ((List Near) × Int × Nat × Unit × Unit) → ((Unit × Unit × Unit × Unit × Unit) × (Int × (Nat × Nat) × Unit) × (Int × Unit × Unit) × (Int × (Nat × Nat) × Unit) × (Int × Unit × Unit) × (List Near) × (List Near) × Unit) → Prop) : ((runW Try.prog (KLS [(14, addK)] [] 30) 100).code none 4 122 (loopBody Try.prog 4 26) (mkT (mb32Sl0.av id (l, (k, (s, ((), (x, (j, ())))))))) [] (stL false (mb32Bl0.obs id (((), ((), ((), ((), ())))), ((k1, (h1, ())), ((k2, ((), ())), ((k3, (h3, ())), ((k4, ((), ())), (m1, (m3, ()))))))))) (postL 0 mb32Fs (mb32Alts R0 R1) (mb32Z0 (l, (k, (s, ((), (x, (j, ())))))) (((), ((), ((), ((), ())))), ((k1, (h1, ())), ((k2, ((), ())), ((k3, (h3, ())), ((k4, ((), ())), (m1, (m3, ())))))))) N)) =
  ( ifp (leInt (0 : Int) j) (idxOk (3 : Int) s ∧ idxOk j x.length ∧ ∃ (x_1 : Int), nth (((natOf j).mul (2 : Nat)).add (0 : Nat)) (List.flatMap En.f x) = some
  (AV.int IntKind.i64 x_1) ∧ ∃ (x_2 : Int), nth (((natOf j).mul (2 : Nat)).add (1 : Nat)) (List.flatMap En.f x) = some (AV.int IntKind.i64 x_2) ∧ ((∃ (a : Near),
  AV.agg [AV.int IntKind.i64 x_1, AV.int IntKind.i64 x_2] = AV.agg [AV.int IntKind.i64 a.fst, AV.int IntKind.i64 a.snd.fst] ∧ False) ∨ ∃ (a : Near), AV.agg
  [AV.int IntKind.i64 x_1, AV.int IntKind.i64 x_2] = AV.agg [AV.int IntKind.i64 a.fst, AV.int IntKind.i64 a.snd.fst] ∧ true = true ∧ add0Pre (((), a, ()), (k4,
  (), ()), ()) ∧ (∀ c d, add0R0 (((), a, ()), (k4, (), ()), ()) c d → True ∧ True ∧ True ∧ ((∃ l_1, VW l l_1 ∧ ∃ l, VW x l ∧ False) ∨ ∃ l_1, VW l l_1 ∧ ∃ l, VW x
  l ∧ ∃ l_2, FE m1 l_2 ∧ ∃ l_3, FE m3 l_3 ∧ true = true ∧ N ((l_1, k, s, (), l, wrapF IntKind.i64 (j.sub (1 : Int)), ()), ((), (), (), (), ()), (k1, (h1.fst,
  h1.snd), ()), (k2, (), ()), (k3, (h3.fst, h3.snd), ()), (d.1.1, ((0 : Nat), (0 : Nat)), ()), l_2, l_3, [], ()))) ∧ (∀ c d, add0R1 (((), a, ()), (k4, (), ()),
  ()) c d → True ∧ True ∧ True ∧ ((∃ l_1, VW l l_1 ∧ ∃ l, VW x l ∧ ∃ l_2, FE m1 l_2 ∧ ∃ l_3, FE m3 l_3 ∧ ∃ l_4, FE d.2.1 l_4 ∧ true = true ∧ N ((l_1, k, s, (),
  l, wrapF IntKind.i64 (j.sub (1 : Int)), ()), ((), (), (), (), ()), (k1, (h1.fst, h1.snd), ()), (k2, (), ()), (k3, (h3.fst, h3.snd), ()), (d.1.1, (d.1.2.1.fst,
  d.1.2.1.snd), ()), l_2, l_3, l_4, ())) ∨ ∃ l_1, VW l l_1 ∧ ∃ l, VW x l ∧ False)) ∧ True)) ((True ∧ ∃ l_1, VW l l_1 ∧ False) ∨ True ∧ ∃ l_1, VW l l_1 ∧ ∃ l_2,
  FE m1 l_2 ∧ ∃ l_3, FE m3 l_3 ∧ true = true ∧ R1 ((l, k, s, (), x, j, ()), ((), (), (), (), ()), (k1, h1, ()), (k2, (), ()), (k3, h3, ()), (k4, ((0 : Nat), (0 :
  Nat)), ()), m1, m3, [], ()) (l_1, k, s, (), ()) (((), (), (), (), ()), (k1, (h1.fst, h1.snd), ()), (k2, (), ()), (k3, (h3.fst, h3.snd), ()), (k4, (), ()), l_2,
  l_3, ()))) := by kernel_rfl

def mb32Inv : mb32Z → Prop := fun ((l, (k, (s, ((), (x, (j, ())))))), (((), ((), ((), ((), ())))), ((k1, (h1, ())), ((k2, ((), ())), ((k3, (h3, ())), ((k4, (h4, ())), (m1, (m3, (m4, ()))))))))) => ∃ q : Nat, j = (q : Int) - 1 ∧ q ≤ x.length ∧ x.length ≤ 150 ∧ s = 4 ∧ 0 ≤ k ∧ k ≤ 150 ∧ k1 = k ∧ k2 = k ∧ k3 = k ∧ k4 = k ∧ h1 = (m1.length, m1.length) ∧ h3 = (m3.length, m3.length) ∧ h4 = (m4.length, m4.length) ∧ ∃ L0, TopOk k m4 (topL k L0)
def mb32Mu : mb32Z → Nat := fun ((l, (k, (s, ((), (x, (j, ())))))), (((), ((), ((), ((), ())))), ((k1, (h1, ())), ((k2, ((), ())), ((k3, (h3, ())), ((k4, (h4, ())), (m1, (m3, (m4, ()))))))))) => (j + 1).toNat
def mb32R0 : mb32Z → ((List Near) × Int × Nat × Unit × Unit) → ((Unit × Unit × Unit × Unit × Unit) × (Int × (Nat × Nat) × Unit) × (Int × Unit × Unit) × (Int × (Nat × Nat) × Unit) × (Int × (Nat × Nat) × Unit) × (List Near) × (List Near) × (List Near) × Unit) → Prop := fun ((l, (k, (s, ((), (x, (j, ())))))), (((), ((), ((), ((), ())))), ((k1, (h1, ())), ((k2, ((), ())), ((k3, (h3, ())), ((k4, (h4, ())), (m1, (m3, (m4, ()))))))))) (l2, y, s2, _) (_, (x1, g1, _), (x2, _), (x3, g3, _), (x4, g4, _), n1, n3, n4, _) => l2 = l ∧ y = k ∧ s2 = 4 ∧ x1 = k ∧ x2 = k ∧ x3 = k ∧ x4 = k ∧ g1 = (m1.length, m1.length) ∧ n1 = m1 ∧ g3 = (m3.length, m3.length) ∧ n3 = m3 ∧ g4 = (n4.length, n4.length) ∧ ∀ L0, TopOk k m4 (topL k L0) → TopOk k n4 (topL k (L0 ++ (x.take (j + 1).toNat).reverse))
def mb32R1 : mb32Z → ((List Near) × Int × Nat × Unit × Unit) → ((Unit × Unit × Unit × Unit × Unit) × (Int × (Nat × Nat) × Unit) × (Int × Unit × Unit) × (Int × (Nat × Nat) × Unit) × (Int × Unit × Unit) × (List Near) × (List Near) × Unit) → Prop := fun ((l, (k, (s, ((), (x, (j, ())))))), (((), ((), ((), ((), ())))), ((k1, (h1, ())), ((k2, ((), ())), ((k3, (h3, ())), ((k4, (h4, ())), (m1, (m3, (m4, ()))))))))) (l2, y, s2, _) (_, (x1, g1, _), (x2, _), (x3, g3, _), (x4, _), n1, n3, _) => l2 = l ∧ y = k ∧ s2 = 4 ∧ x1 = k ∧ x2 = k ∧ x3 = k ∧ x4 = k ∧ g1 = (m1.length, m1.length) ∧ n1 = m1 ∧ g3 = (m3.length, m3.length) ∧ n3 = m3 ∧ ∀ L0, TopOk k m4 (topL k L0) → TopOk k [] (topL k (L0 ++ (x.take (j + 1).toNat).reverse))
noncomputable def mb32C : LoopC := loopC 0 mb32Fs (mb32Alts mb32R0 mb32R1) mb32Inv

theorem mb32Step : stepsOk Try.prog (KLS [(14, addK)] [] 30) 100 4 122 (loopBody Try.prog 4 26) 0 false mb32Fs (mb32Alts mb32R0 mb32R1) mb32Inv mb32Mu ⟨_, _, mb32Sl, mb32Bl, fun x y => (x, y)⟩ := by
  intro x y hz
  obtain ⟨l, k, s, _, x, j, _⟩ := x
  obtain ⟨⟨_, _, _, _, _⟩, ⟨k1, h1, _⟩, ⟨k2, _, _⟩, ⟨k3, h3, _⟩, ⟨k4, h4, _⟩, m1, m3, m4, _⟩ := y
  refine (mb32Form l k s x j k1 h1 k2 k3 h3 k4 h4 m1 m3 m4 _ _ _).mpr ?_
  obtain ⟨q, hj, hq, hx, hs, k0, kle, q1, q2, q3, q4, g1, g3, g4, L0, hT⟩ := hz
  obtain rfl : s = 4 := hs
  obtain rfl : k = k1 := q1.symm
  obtain rfl : k = k2 := q2.symm
  obtain rfl : k = k3 := q3.symm
  obtain rfl : k = k4 := q4.symm
  obtain rfl : h1 = (m1.length, m1.length) := g1
  obtain rfl : h3 = (m3.length, m3.length) := g3
  obtain rfl : h4 = (m4.length, m4.length) := g4
  obtain rfl : j = (q : Int) - 1 := hj
  rw [ifp_ge]
  split
  · rename_i h
    obtain ⟨r, rfl⟩ : ∃ r : Nat, q = r + 1 := ⟨q - 1, by omega⟩
    have e : (((r + 1 : Nat) : Int) - 1) = (r : Int) := by omega
    have hrl : r < x.length := by omega
    simp only [e, natOf_nat]
    have hl4 := hT.len
    have hl5 := hT.l
    refine ⟨⟨by decide, by decide⟩, idx_ok hrl, _, nth_near0 hrl, _, nth_near1 hrl, Or.inl ⟨x[r], rfl, m4, rfl, (by first | exact trivial | exact rfl), ⟨rfl, hT.h, by omega, k0⟩, fun c d hr => ?_, trivial⟩⟩
    obtain ⟨b, e4, _⟩ := c
    obtain ⟨⟨x4, g4, _⟩, p4, _⟩ := d
    obtain ⟨he4, hx4, hg4, ha4⟩ := hr
    obtain rfl : k = x4 := hx4.symm
    obtain rfl : g4 = (p4.length, p4.length) := hg4
    repeat (refine And.intro True.intro ?_)
    have ew : wrapF .i64 (Int.sub (r : Int) 1) = (r : Int) - 1 := by rw [wsub (by omega) (by omega)]
    simp only [ew]
    refine Or.inl ⟨l, Wk.refl _, x, Wk.refl _, m1, rfl, m3, rfl, p4, rfl, (by first | exact trivial | exact rfl), ⟨r, rfl, by omega, hx, rfl, k0, kle, rfl, rfl, rfl, rfl, rfl, rfl, rfl, L0 ++ [x[r]], hT.top k0 ha4 rfl⟩, ?_, ?_⟩
    · show (((r : Int) - 1) + 1).toNat < (((r : Int)) + 1).toNat; omega
    · refine ⟨?_, ?_, trivial⟩
      · exact fun _ _ hr => by
          obtain ⟨a0, a1, a2, a3, a4, a5, a6, a7, a8, a9, a10, a11, hA⟩ := hr
          refine ⟨a0, a1, a2, a3, a4, a5, a6, a7, a8, a9, a10, a11, fun L1 h1 => ?_⟩
          have := hA (L1 ++ [x[r]]) (h1.top k0 ha4 rfl)
          rw [show (((r : Int) - 1 + 1).toNat) = r by omega, mb_step hrl] at this
          rwa [show ((((r : Int)) + 1).toNat) = r + 1 by omega]
      · exact fun _ _ hr => by
          obtain ⟨a0, a1, a2, a3, a4, a5, a6, a7, a8, a9, a10, hA⟩ := hr
          refine ⟨a0, a1, a2, a3, a4, a5, a6, a7, a8, a9, a10, fun L1 h1 => ?_⟩
          have := hA (L1 ++ [x[r]]) (h1.top k0 ha4 rfl)
          rw [show (((r : Int) - 1 + 1).toNat) = r by omega, mb_step hrl] at this
          rwa [show ((((r : Int)) + 1).toNat) = r + 1 by omega]
  · rename_i h
    obtain rfl : q = 0 := by omega
    refine Or.inl ⟨trivial, l, Wk.refl _, m1, rfl, m3, rfl, m4, rfl, (by first | exact trivial | exact rfl), rfl, rfl, rfl, rfl, rfl, rfl, rfl, rfl, rfl, rfl, rfl, rfl, fun L1 h1 => ?_⟩
    show TopOk k _ (topL k (L1 ++ (x.take 0).reverse))
    rw [List.take_zero, List.reverse_nil, List.append_nil]
    exact h1
theorem mb32Step0 : stepsOk Try.prog (KLS [(14, addK)] [] 30) 100 4 122 (loopBody Try.prog 4 26) 0 false mb32Fs (mb32Alts mb32R0 mb32R1) mb32Inv mb32Mu ⟨_, _, mb32Sl0, mb32Bl0, mb32Z0⟩ := by
  intro x y hz
  obtain ⟨l, k, s, _, x, j, _⟩ := x
  obtain ⟨⟨_, _, _, _, _⟩, ⟨k1, h1, _⟩, ⟨k2, _, _⟩, ⟨k3, h3, _⟩, ⟨k4, _, _⟩, m1, m3, _⟩ := y
  refine (mb32Form0 l k s x j k1 h1 k2 k3 h3 k4 m1 m3 _ _ _).mpr ?_
  obtain ⟨q, hj, hq, hx, hs, k0, kle, q1, q2, q3, q4, g1, g3, g4, L0, hT⟩ := hz
  obtain rfl : s = 4 := hs
  obtain rfl : k = k1 := q1.symm
  obtain rfl : k = k2 := q2.symm
  obtain rfl : k = k3 := q3.symm
  obtain rfl : k = k4 := q4.symm
  obtain rfl : h1 = (m1.length, m1.length) := g1
  obtain rfl : h3 = (m3.length, m3.length) := g3
  obtain rfl : j = (q : Int) - 1 := hj
  rw [ifp_ge]
  split
  · rename_i h
    obtain ⟨r, rfl⟩ : ∃ r : Nat, q = r + 1 := ⟨q - 1, by omega⟩
    have e : (((r + 1 : Nat) : Int) - 1) = (r : Int) := by omega
    have hrl : r < x.length := by omega
    simp only [e, natOf_nat]
    refine ⟨⟨by decide, by decide⟩, idx_ok hrl, _, nth_near0 hrl, _, nth_near1 hrl, Or.inr ⟨x[r], rfl, (by first | exact trivial | exact rfl), k0, fun c d hr => ?_, fun c d hr => ?_, trivial⟩⟩
    · obtain ⟨b, e4, _⟩ := c
      obtain ⟨⟨x4, _⟩, _⟩ := d
      obtain ⟨hb4, he4, hx4, hz4⟩ := hr
      obtain rfl : k = x4 := hx4.symm
      have hz4 : k = 0 := hz4
      have ha4 := add_0 (n := x[r]) hz4
      repeat (refine And.intro True.intro ?_)
      have ew : wrapF .i64 (Int.sub (r : Int) 1) = (r : Int) - 1 := by rw [wsub (by omega) (by omega)]
      simp only [ew]
      refine Or.inr ⟨l, Wk.refl _, x, Wk.refl _, m1, rfl, m3, rfl, (by first | exact trivial | exact rfl), ⟨r, rfl, by omega, hx, rfl, k0, kle, rfl, rfl, rfl, rfl, rfl, rfl, rfl, L0 ++ [x[r]], hT.top k0 ha4 rfl⟩, ?_, ?_⟩
      · show (((r : Int) - 1) + 1).toNat < (((r : Int)) + 1).toNat; omega
      · refine ⟨?_, ?_, trivial⟩
        · exact fun _ _ hr => by
            obtain ⟨a0, a1, a2, a3, a4, a5, a6, a7, a8, a9, a10, a11, hA⟩ := hr
            refine ⟨a0, a1, a2, a3, a4, a5, a6, a7, a8, a9, a10, a11, fun L1 h1 => ?_⟩
            have := hA (L1 ++ [x[r]]) (h1.top k0 ha4 rfl)
            rw [show (((r : Int) - 1 + 1).toNat) = r by omega, mb_step hrl] at this
            rwa [show ((((r : Int)) + 1).toNat) = r + 1 by omega]
        · exact fun _ _ hr => by
            obtain ⟨a0, a1, a2, a3, a4, a5, a6, a7, a8, a9, a10, hA⟩ := hr
            refine ⟨a0, a1, a2, a3, a4, a5, a6, a7, a8, a9, a10, fun L1 h1 => ?_⟩
            have := hA (L1 ++ [x[r]]) (h1.top k0 ha4 rfl)
            rw [show (((r : Int) - 1 + 1).toNat) = r by omega, mb_step hrl] at this
            rwa [show ((((r : Int)) + 1).toNat) = r + 1 by omega]
    · obtain ⟨b, e4, _⟩ := c
      obtain ⟨⟨x4, g4, _⟩, p4, _⟩ := d
      obtain ⟨hb4, he4, hx4, hz4, hg4, hp4⟩ := hr
      obtain rfl : k = x4 := hx4.symm
      obtain rfl : p4 = [x[r]] := hp4
      obtain rfl : g4 = (1, 1) := hg4
      have hz4 : 0 < k := hz4
      have ha4 := add_1 (n := x[r]) hz4
      repeat (refine And.intro True.intro ?_)
      have ew : wrapF .i64 (Int.sub (r : Int) 1) = (r : Int) - 1 := by rw [wsub (by omega) (by omega)]
      simp only [ew]
      refine Or.inl ⟨l, Wk.refl _, x, Wk.refl _, m1, rfl, m3, rfl, [x[r]], rfl, (by first | exact trivial | exact rfl), ⟨r, rfl, by omega, hx, rfl, k0, kle, rfl, rfl, rfl, rfl, rfl, rfl, rfl, L0 ++ [x[r]], hT.top k0 ha4 rfl⟩, ?_, ?_⟩
      · show (((r : Int) - 1) + 1).toNat < (((r : Int)) + 1).toNat; omega
      · refine ⟨?_, ?_, trivial⟩
        · exact fun _ _ hr => by
            obtain ⟨a0, a1, a2, a3, a4, a5, a6, a7, a8, a9, a10, a11, hA⟩ := hr
            refine ⟨a0, a1, a2, a3, a4, a5, a6, a7, a8, a9, a10, a11, fun L1 h1 => ?_⟩
            have := hA (L1 ++ [x[r]]) (h1.top k0 ha4 rfl)
            rw [show (((r : Int) - 1 + 1).toNat) = r by omega, mb_step hrl] at this
            rwa [show ((((r : Int)) + 1).toNat) = r + 1 by omega]
        · exact fun _ _ hr => by
            obtain ⟨a0, a1, a2, a3, a4, a5, a6, a7, a8, a9, a10, hA⟩ := hr
            refine ⟨a0, a1, a2, a3, a4, a5, a6, a7, a8, a9, a10, fun L1 h1 => ?_⟩
            have := hA (L1 ++ [x[r]]) (h1.top k0 ha4 rfl)
            rw [show (((r : Int) - 1 + 1).toNat) = r by omega, mb_step hrl] at this
            rwa [show ((((r : Int)) + 1).toNat) = r + 1 by omega]
  · rename_i h
    obtain rfl : q = 0 := by omega
    refine Or.inr ⟨trivial, l, Wk.refl _, m1, rfl, m3, rfl, (by first | exact trivial | exact rfl), rfl, rfl, rfl, rfl, rfl, rfl, rfl, rfl, rfl, rfl, rfl, fun L1 h1 => ?_⟩
    show TopOk k _ (topL k (L1 ++ (x.take 0).reverse))
    rw [List.take_zero, List.reverse_nil, List.append_nil]
    exact h1
theorem mb32Ok : LoopOk Try.prog 4 122 (.loop (loopBody Try.prog 4 26)) mb32C := loop_ok mb32Mu mixed (KLS_ok (cc_cons addCc (cc_nil))) rfl (steps_cons mb32Step (steps_cons mb32Step0 (steps_nil)))

noncomputable def mbC : LoopC := orL mb01C (orL mb02C (orL mb11C (orL mb12C (orL mb21C (orL mb22C (orL mb31C (mb32C)))))))
theorem mbOk : LoopOk Try.prog 4 122 (.loop (loopBody Try.prog 4 26)) mbC := orL_ok mb01Ok (orL_ok mb02Ok (orL_ok mb11Ok (orL_ok mb12Ok (orL_ok mb21Ok (orL_ok mb22Ok (orL_ok mb31Ok (mb32Ok)))))))

end Go.Proofs.Ytfcdpdejoogapaa
