/- Forms and contracts, printed by gx.py. -/
import Derived.Test.YtfcdpdejoogapaaRows
import Derived.Test.YtfcdpdejoogapaaDvUse
import Derived.Test.YtfcdpdejoogapaaDvArg
import Derived.ProofKit
import Derived.Test.YtfcdpdejoogapaaCell
import Derived.Test.YtfcdpdejoogapaaCellB
import Derived.Test.YtfcdpdejoogapaaSort
import Derived.Test.YtfcdpdejoogapaaDvSort
import Derived.Test.YtfcdpdejoogapaaDvHp
import Derived.Test.YtfcdpdejoogapaaRank
import Derived.Test.YtfcdpdejoogapaaDvStab
namespace Go.Proofs.Ytfcdpdejoogapaa
open Go.Det Go.RowKit
set_option linter.unusedVariables false
set_option linter.unusedSimpArgs false
set_option maxRecDepth 100000
theorem lives04Ran : answersTrue ((run Try.prog 1000).call 10 [] st0) = true := by kernel_rfl
noncomputable def lives04K : CallC := valC .nil (fun _ => True) (fun _ => .bool true)
theorem lives04Cc : CcOk Try.prog 10 lives04K := val_ok rfl fun _ _ st => CallS.closed_ran mixed lives04Ran st

/-! wayfinder/rank.New -/
abbrev newZ := (Int × Unit) × (Unit)
noncomputable def newT : Tel (Int × Unit) := .cons 0 (.int .i64) (.nil)
noncomputable def newBl : BTel (Unit) := .nil
noncomputable def newRes (R0 : newZ → (Unit × Int × Unit) → (Unit) → Prop) (R1 : newZ → (Unit × Int × Unit) → ((Int × Unit × Unit) × Unit) → Prop) : List (Res newZ) := [⟨Unit × Int × Unit, Unit, .cons 0 (.con (.nilPtr) rfl) (.cons 1 (.int .i64) (.nil)), .nil, R0⟩, ⟨Unit × Int × Unit, (Int × Unit × Unit) × Unit, .cons 0 (.ptr 0) (.cons 1 (.int .i64) (.nil)), .cons (.row (.cons 0 (.int .i64) (.cons 1 (.nilS) (.nil)))) (.nil), R1⟩]

theorem newFn (k : Int) (R0 : newZ → (Unit × Int × Unit) → (Unit) → Prop) (R1 : newZ → (Unit × Int × Unit) → ((Int × Unit × Unit) × Unit) → Prop) : (callW Try.prog (runW Try.prog (KL [] []) 200) 12 (newT.cells id (k, ())) (stL false (newBl.obs id ())) (fun v st => resAny 0 ((k, ()), ()) v st (newRes R0 R1))) =
  ( ifp (!leInt (0 : Int) k) (AV.nilPtr = AV.nilPtr ∧ true = true ∧ R0 ((k, ()), ()) ((), (2 : Int), ()) () ∨ False) (ifp (!leInt k (16777216 : Int)) (AV.nilPtr =
  AV.nilPtr ∧ true = true ∧ R0 ((k, ()), ()) ((), (2 : Int), ()) () ∨ False) (AV.ptr (0 : Nat) (0 : Nat) = AV.nilPtr ∧ true = true ∧ R0 ((k, ()), ()) ((), (0 :
  Int), ()) () ∨ true = true ∧ R1 ((k, ()), ()) ((), (0 : Int), ()) ((k, (), ()), ())))) := by kernel_rfl

def newPre : newZ → Prop := fun ((k, ()), ()) => True
def newR0 : newZ → (Unit × Int × Unit) → (Unit) → Prop := fun ((k, ()), ()) (_, e, _) _ => e = 2 ∧ (k < 0 ∨ 16777216 < k)
def newR1 : newZ → (Unit × Int × Unit) → ((Int × Unit × Unit) × Unit) → Prop := fun ((k, ()), ()) (_, e, _) ((k2, _), _) => e = 0 ∧ 0 ≤ k ∧ k ≤ 16777216 ∧ k2 = k
noncomputable def newK : CallC := callC 0 newT newBl newPre (newRes newR0 newR1)

theorem newStep (z : newZ) (hp : newPre z) : callW Try.prog (runW Try.prog (KL [] []) 200) 12 (newT.cells id z.1) (stL false (newBl.obs id z.2)) (fun v st => resAny 0 z v st (newRes newR0 newR1)) := by
  obtain ⟨⟨k, _⟩, _⟩ := z
  refine (newFn k _ _).mpr ?_
  rw [ifp_lt, ifp_lt]
  split
  · rename_i h; exact Or.inl ⟨rfl, (by first | exact trivial | exact rfl), rfl, Or.inl h⟩
  · rename_i h
    split
    · rename_i h2; exact Or.inl ⟨rfl, (by first | exact trivial | exact rfl), rfl, Or.inr h2⟩
    · rename_i h2; exact Or.inr ⟨rfl, (by first | exact trivial | exact rfl), by omega, by omega, rfl⟩
theorem newCc : CcOk Try.prog 12 newK := call_ok mixed (KL_ok (cc_nil)) rfl newStep

/-! wayfinder/wayfinderref04.New -/
abbrev rnewZ := (Int × Unit) × (Unit)
noncomputable def rnewT : Tel (Int × Unit) := .cons 0 (.int .i64) (.nil)
noncomputable def rnewBl : BTel (Unit) := .nil
noncomputable def rnewRes (R0 : rnewZ → (Unit × Int × Unit) → (Unit) → Prop) (R1 : rnewZ → (Unit × Int × Unit) → ((Int × (List Near) × Unit) × Unit) → Prop) : List (Res rnewZ) := [⟨Unit × Int × Unit, Unit, .cons 0 (.con (.nilPtr) rfl) (.cons 1 (.int .i64) (.nil)), .nil, R0⟩, ⟨Unit × Int × Unit, (Int × (List Near) × Unit) × Unit, .cons 0 (.ptr 0) (.cons 1 (.int .i64) (.nil)), .cons (.row (.cons 0 (.int .i64) (.cons 1 (.lst En) (.nil)))) (.nil), R1⟩]

theorem rnewFn (k : Int) (R0 : rnewZ → (Unit × Int × Unit) → (Unit) → Prop) (R1 : rnewZ → (Unit × Int × Unit) → ((Int × (List Near) × Unit) × Unit) → Prop) : (callW Try.prog (runW Try.prog (KL [] []) 200) 19 (rnewT.cells id (k, ())) (stL false (rnewBl.obs id ())) (fun v st => resAny 0 ((k, ()), ()) v st (rnewRes R0 R1))) =
  ( ifp (!leInt (0 : Int) k) (AV.nilPtr = AV.nilPtr ∧ true = true ∧ R0 ((k, ()), ()) ((), (2 : Int), ()) () ∨ False) (ifp (!leInt k (16777216 : Int)) (AV.nilPtr =
  AV.nilPtr ∧ true = true ∧ R0 ((k, ()), ()) ((), (2 : Int), ()) () ∨ False) (AV.ptr (0 : Nat) (0 : Nat) = AV.nilPtr ∧ true = true ∧ R0 ((k, ()), ()) ((), (0 :
  Int), ()) () ∨ ∃ (l : List Near), Wk AV.nilSlice (lst En l) ∧ true = true ∧ R1 ((k, ()), ()) ((), (0 : Int), ()) ((k, l, ()), ())))) := by kernel_rfl

def rnewPre : rnewZ → Prop := fun ((k, ()), ()) => True
def rnewR0 : rnewZ → (Unit × Int × Unit) → (Unit) → Prop := fun ((k, ()), ()) (_, e, _) _ => e = 2 ∧ (k < 0 ∨ 16777216 < k)
def rnewR1 : rnewZ → (Unit × Int × Unit) → ((Int × (List Near) × Unit) × Unit) → Prop := fun ((k, ()), ()) (_, e, _) ((k2, L, _), _) => e = 0 ∧ 0 ≤ k ∧ k ≤ 16777216 ∧ k2 = k ∧ L = []
noncomputable def rnewK : CallC := callC 0 rnewT rnewBl rnewPre (rnewRes rnewR0 rnewR1)

theorem rnewStep (z : rnewZ) (hp : rnewPre z) : callW Try.prog (runW Try.prog (KL [] []) 200) 19 (rnewT.cells id z.1) (stL false (rnewBl.obs id z.2)) (fun v st => resAny 0 z v st (rnewRes rnewR0 rnewR1)) := by
  obtain ⟨⟨k, _⟩, _⟩ := z
  refine (rnewFn k _ _).mpr ?_
  rw [ifp_lt, ifp_lt]
  split
  · rename_i h; exact Or.inl ⟨rfl, (by first | exact trivial | exact rfl), rfl, Or.inl h⟩
  · rename_i h
    split
    · rename_i h2; exact Or.inl ⟨rfl, (by first | exact trivial | exact rfl), rfl, Or.inr h2⟩
    · rename_i h2; exact Or.inr ⟨[], wk_nil _, (by first | exact trivial | exact rfl), (by first | exact trivial | exact rfl), by omega, by omega, rfl, rfl⟩
theorem rnewCc : CcOk Try.prog 19 rnewK := call_ok mixed (KL_ok (cc_nil)) rfl rnewStep


theorem weakLess : Go.Det.Stab.Weak lessV where
  irr := ltLess.irr
  tr a b c h1 h2 := ltLess.tr _ _ _ h1 h2
  ntr a b c h1 h2 := ltLess.le_tr (a := c) (b := b) (c := a) h2 h1
theorem near_stab (l : List Near) : nearSort l = Go.Det.Stab.sort lessV l := srt_unique (nearSort_srt l) (Go.Det.Stab.sort_srt weakLess l) ((nearSort_perm l).trans (Go.Det.Stab.sort_perm l).symm)
def topL (k : Int) (X : List Near) : List Near := (nearSort X).take k.toNat
theorem topL_len (k : Int) (X : List Near) : (topL k X).length = min k.toNat X.length := by rw [topL, List.length_take, nearSort_len]
theorem topL_srt (k : Int) (X : List Near) : Srt (topL k X) := (nearSort_srt X).sublist (List.take_sublist _ _)
theorem topL_perm {X Y : List Near} (k : Int) (h : X.Perm Y) : topL k X = topL k Y := by
  rw [topL, topL, srt_unique (nearSort_srt X) (nearSort_srt Y) ((nearSort_perm X).trans (h.trans (nearSort_perm Y).symm))]
theorem ins_mg {L : List Near} (h : Srt L) (n : Near) : insV L n = Go.Det.Stab.mg lessV L [n] := by
  have h1 : insV L n = nearSort (L ++ [n]) := srt_unique (ins_sorted h n) (nearSort_srt _) (((ins_perm L n).trans (List.perm_append_comm (l₁ := [n]) (l₂ := L))).trans (nearSort_perm _).symm)
  rw [h1, near_stab, Go.Det.Stab.sort_snoc, Go.Det.Stab.sort_id h]
theorem top_snoc (k : Int) (X : List Near) (n : Near) : topL k (X ++ [n]) = (insV (topL k X) n).take k.toNat := by
  rw [ins_mg (topL_srt k X), topL, topL, near_stab, near_stab, Go.Det.Stab.sort_snoc, ← Go.Det.Stab.mg_take k.toNat _ [n] k.toNat (k.toNat + 1) (Nat.le_refl _) (Nat.le_succ _)]
  rw [show [n].take (k.toNat + 1) = [n] by simp]
theorem radd_top {k : Int} (k0 : 0 ≤ k) (X : List Near) (n : Near) : raddL k (topL k X) n = topL k (X ++ [n]) := by
  rw [top_snoc]
  rw [raddL]
  split
  · rfl
  · rename_i hk
    have hk' : keepV k (topL k X) n = false := by simpa using hk
    simp only [keepV, Bool.not_eq_false', Bool.and_eq_true, decide_eq_true_eq, Bool.or_eq_true] at hk'
    obtain ⟨h1, h2⟩ := hk'
    have hl : (topL k X).length = k.toNat := by omega
    rw [ins_mg (topL_srt k X)]
    rcases h2 with h2 | h2
    · have : k.toNat = 0 := by omega
      rw [this, List.take_zero]
      exact List.length_eq_zero_iff.1 (by omega)
    · have hn : ∀ x ∈ topL k X, lessV n x = false := by
        intro x hx
        obtain ⟨i, hi, rfl⟩ := List.getElem_of_mem hx
        obtain ⟨p, hp⟩ : ∃ p, (topL k X).length = p + 1 := ⟨(topL k X).length - 1, by omega⟩
        rw [last_get n hp] at h2
        have h2' : lessV n ((topL k X)[p]'(by omega)) = false := by simpa using h2
        exact ltLess.le_tr ((topL_srt k X).get hi (by omega) (by omega)) h2'
      have := Go.Det.Stab.mg_split (lt := lessV) _ (topL k X) [] [] [n] (Nat.le_refl _) (fun x hx y hy => by simp at hy; subst hy; exact hn x hx) (fun y hy => by cases hy)
      simp only [List.append_nil, List.nil_append, Go.Det.Stab.mg_nil, Go.Det.Stab.mg_nil'] at this
      rw [this, List.take_append_of_le_length (by omega), List.take_of_length_le (by omega)]
theorem top_mono {k : Int} {X : List Near} {n x : Near} (k0 : 0 ≤ k) (hl : ((topL k X).length : Int) = k) (hk : k ≠ 0) (hx : x ∈ topL k (X ++ [n])) : lessV ((topL k X).getLastD n) x = false := by
  obtain ⟨p, hp⟩ : ∃ p, (topL k X).length = p + 1 := ⟨(topL k X).length - 1, by omega⟩
  rw [last_get n hp]
  have hT : ∀ y ∈ topL k X, lessV ((topL k X)[p]'(by omega)) y = false := by
    intro y hy
    obtain ⟨i, hi, rfl⟩ := List.getElem_of_mem hy
    exact (topL_srt k X).get hi (by omega) (by omega)
  rw [← radd_top k0, raddL] at hx
  split at hx
  · rename_i hkeep
    have hm := (List.take_sublist _ _).mem hx
    rcases List.mem_cons.1 ((ins_perm _ _).mem_iff.1 hm) with rfl | hy
    · have hlt : lessV x ((topL k X).getLastD x) = true := by
        simp only [keepV, Bool.not_eq_true', Bool.and_eq_false_iff, decide_eq_false_iff_not, Bool.or_eq_false_iff, Bool.not_eq_false'] at hkeep
        rcases hkeep with h | ⟨_, h⟩
        · exact absurd hl h
        · exact h
      rw [last_get x hp] at hlt
      exact ltLess.asym hlt
    · exact hT x hy
  · exact hT x hx
theorem top_nil (k : Int) : topL k [] = [] := by simp [topL, nearSort]
theorem TopOk.top {k : Int} {m L m2 : List Near} {n : Near} {b : Bool} (h : TopOk k m L) (k0 : 0 ≤ k) (ha : addOk k m n b m2) {X : List Near} (hL : L = topL k X) : TopOk k m2 (topL k (X ++ [n])) := by
  have := (h.add k0 ha).2
  rwa [hL, radd_top k0] at this
theorem count_top (k : Int) (l : List Near) (y : Near) : (topL k l).count y ≤ l.count y := by
  rw [← (nearSort_perm l).count_eq y]
  exact (List.take_sublist _ _).count_le _
theorem top_out {k : Int} {l : List Near} {y : Near} (h : (topL k l).count y < l.count y) (h0 : 0 < (topL k l).length) : lessV y ((topL k l).getLastD y) = false := by
  obtain ⟨p, hp⟩ : ∃ p, (topL k l).length = p + 1 := ⟨(topL k l).length - 1, by omega⟩
  rw [last_get y hp]
  have hs : nearSort l = topL k l ++ (nearSort l).drop k.toNat := (List.take_append_drop _ _).symm
  have hc : 0 < ((nearSort l).drop k.toNat).count y := by
    have := (nearSort_perm l).count_eq y
    rw [hs, List.count_append] at this; omega
  have hy := List.count_pos_iff.1 hc
  have hp2 : (topL k l)[p]'(by omega) ∈ topL k l := List.getElem_mem _
  have hS := nearSort_srt l
  rw [hs] at hS
  exact (List.pairwise_append.1 hS).2.2 _ hp2 _ hy

theorem worst_full {k : Int} {m L : List Near} {w : Near} (h : TopOk k m L) (hw : (w, true) = worstV k m) : (L.length : Int) = k ∧ k ≠ 0 ∧ w = L.getLastD w := by
  have hl := h.len
  rw [worstV] at hw
  split at hw
  · rename_i c
    obtain ⟨c1, c2⟩ := c
    have hk := h.l
    have h0 : 0 < m.length := by omega
    refine ⟨by omega, c2, ?_⟩
    have hw1 : w = m.headD (0, 0, ()) := congrArg Prod.fst hw
    rw [h.last h0, hw1, hd_get h0]
  · exact absurd (congrArg Prod.snd hw) (by simp)
theorem worst_is {k : Int} {m L : List Near} (h : TopOk k m L) (hl : (L.length : Int) = k) (hk : k ≠ 0) : (worstV k m).2 = true := by
  rw [worstV, if_pos ⟨by rw [h.len]; exact hl, hk⟩]
theorem worst_no (k : Int) : (worstV k []).2 = false := by
  rw [worstV, if_neg (by rintro ⟨h1, h2⟩; simp at h1; omega)]
theorem rev_at {q n : Nat} (h : q < n) (hn : n ≤ 1000000) : wrapF .i64 (Int.sub (wrapF .i64 (Int.sub (Int.ofNat n) 1)) (q : Int)) = ((n - 1 - q : Nat) : Int) := by
  have e1 : wrapF .i64 (Int.sub (Int.ofNat n) 1) = ((n - 1 : Nat) : Int) := by
    rw [w64 (by show _ ≤ (n : Int) - 1; omega) (by show (n : Int) - 1 < _; omega)]; show (n : Int) - 1 = _; omega
  rw [e1, w64 (by show _ ≤ ((n - 1 : Nat) : Int) - (q : Int); omega) (by show ((n - 1 : Nat) : Int) - (q : Int) < _; omega)]
  show ((n - 1 : Nat) : Int) - (q : Int) = _; omega
theorem rev_take {l : List Near} {q : Nat} (h : q < l.length) : l.reverse.take q ++ [l[l.length - 1 - q]'(by omega)] = l.reverse.take (q + 1) := by
  rw [← List.take_append_getElem (l := l.reverse) (i := q) (by simpa using h), List.getElem_reverse]

/-! The loop ka of wayfinder/wayfinderlaw04.RankKeeps. -/
abbrev kaZ := ((List Near) × Int × Unit × Unit × Int × Unit) × ((Int × (Nat × Nat) × Unit) × (Int × (Nat × Nat) × Unit) × (List Near) × (List Near) × Unit)
noncomputable def kaSl : Tel ((List Near) × Int × Unit × Unit × Int × Unit) := .cons 0 (.lst En) (.cons 1 (.int .i64) (.cons 5 (.ptr 0) (.cons 7 (.ptr 1) (.cons 9 (.int .i64) (.nil)))))
noncomputable def kaBl : BTel ((Int × (Nat × Nat) × Unit) × (Int × (Nat × Nat) × Unit) × (List Near) × (List Near) × Unit) := .cons (.row (.cons 0 (.int .i64) (.cons 1 (.slq 2 2) (.nil)))) (.cons (.row (.cons 0 (.int .i64) (.cons 1 (.slq 3 2) (.nil)))) (.cons (.rows En 30) (.cons (.rows En 30) (.nil))))
noncomputable def kaSl0 : Tel ((List Near) × Int × Unit × Unit × Int × Unit) := .cons 0 (.lst En) (.cons 1 (.int .i64) (.cons 5 (.ptr 0) (.cons 7 (.ptr 1) (.cons 9 (.int .i64) (.nil)))))
noncomputable def kaBl0 : BTel ((Int × Unit × Unit) × (Int × Unit × Unit) × Unit) := .cons (.row (.cons 0 (.int .i64) (.cons 1 (.nilS) (.nil)))) (.cons (.row (.cons 0 (.int .i64) (.cons 1 (.nilS) (.nil)))) (.nil))
noncomputable def kaZ0 : ((List Near) × Int × Unit × Unit × Int × Unit) → ((Int × Unit × Unit) × (Int × Unit × Unit) × Unit) → kaZ := fun (l, (n, ((), ((), (i, ()))))) ((k, ((), ())), ((K, ((), ())), ())) => ((l, (n, ((), ((), (i, ()))))), ((k, ((0, 0), ())), ((K, ((0, 0), ())), ([], ([], ())))))
noncomputable def kaFs : List (LForm kaZ) := [⟨_, _, kaSl, kaBl, fun x y => (x, y)⟩, ⟨_, _, kaSl0, kaBl0, kaZ0⟩]
noncomputable def kaAlts (R0 : kaZ → ((List Near) × Int × Unit × Unit × Unit) → ((Int × (Nat × Nat) × Unit) × (Int × (Nat × Nat) × Unit) × (List Near) × (List Near) × Unit) → Prop) (R1 : kaZ → ((List Near) × Int × Unit × Unit × Unit) → ((Int × Unit × Unit) × (Int × Unit × Unit) × Unit) → Prop) (R2 : kaZ → (Unit × Unit) → (Unit) → Prop) : List (Alt kaZ) := [⟨.exit 0, (List Near) × Int × Unit × Unit × Unit, (Int × (Nat × Nat) × Unit) × (Int × (Nat × Nat) × Unit) × (List Near) × (List Near) × Unit, .cons 0 (.lst En) (.cons 1 (.int .i64) (.cons 5 (.ptr 0) (.cons 7 (.ptr 1) (.nil)))), .cons (.row (.cons 0 (.int .i64) (.cons 1 (.slq 2 2) (.nil)))) (.cons (.row (.cons 0 (.int .i64) (.cons 1 (.slq 3 2) (.nil)))) (.cons (.rows En 30) (.cons (.rows En 30) (.nil)))), R0⟩, ⟨.exit 0, (List Near) × Int × Unit × Unit × Unit, (Int × Unit × Unit) × (Int × Unit × Unit) × Unit, .cons 0 (.lst En) (.cons 1 (.int .i64) (.cons 5 (.ptr 0) (.cons 7 (.ptr 1) (.nil)))), .cons (.row (.cons 0 (.int .i64) (.cons 1 (.nilS) (.nil)))) (.cons (.row (.cons 0 (.int .i64) (.cons 1 (.nilS) (.nil)))) (.nil)), R1⟩, ⟨.ret, Unit × Unit, Unit, .cons 4 (.con (.bool false) rfl) (.nil), .nil, R2⟩]

theorem kaForm (l : List Near) (n : Int) (i : Int) (k : Int) (h : Nat × Nat) (K : Int) (g : Nat × Nat) (m : List Near) (p : List Near) (N : kaZ → Prop) (R0 : kaZ → ((List Near) × Int × Unit × Unit × Unit) → ((Int × (Nat × Nat) × Unit) × (Int × (Nat × Nat) × Unit) × (List Near) × (List Near) × Unit) → Prop) (R1 : kaZ → ((List Near) × Int × Unit × Unit × Unit) → ((Int × Unit × Unit) × (Int × Unit × Unit) × Unit) → Prop) (R2 : kaZ → (Unit × Unit) → (Unit) → Prop) : ((runW Try.prog (KLS [(14, addK), (13, worstK), (15, lessK)] [] 30) 100).code none 3 185 (loopBody Try.prog 3 11) (mkT (kaSl.av id (l, (n, ((), ((), (i, ()))))))) [] (stL false (kaBl.obs id ((k, (h, ())), ((K, (g, ())), (m, (p, ())))))) (postL 0 kaFs (kaAlts R0 R1 R2) ((l, (n, ((), ((), (i, ()))))), ((k, (h, ())), ((K, (g, ())), (m, (p, ()))))) N)) =
  ( ifp (!leInt (Int.ofNat l.length) i) ((∃ (l_1 : List Near), List.flatMap En.f m = List.flatMap En.f l_1 ∧ true = true ∧ worst1Pre (((), ()), (k, (h.fst, h.snd),
  ()), l_1, ()) ∧ (∀ (c : Near × Bool × Unit) (d : (Int × (Nat × Nat) × Unit) × List Near × Unit), worst1R0 (((), ()), (k, (h.fst, h.snd), ()), l_1, ()) c d →
  ifp c.2.1 ((2 : Nat) ≤ (2 : Nat) ∧ idxOk i l.length ∧ ∃ (x : Int), nth (((natOf i).mul (2 : Nat)).add (0 : Nat)) (List.flatMap En.f l) = some (AV.int
  IntKind.i64 x) ∧ ∃ (x_1 : Int), nth (((natOf i).mul (2 : Nat)).add (1 : Nat)) (List.flatMap En.f l) = some (AV.int IntKind.i64 x_1) ∧ ((∃ (a : Near), AV.agg
  [AV.int IntKind.i64 x, AV.int IntKind.i64 x_1] = AV.agg [AV.int IntKind.i64 a.fst, AV.int IntKind.i64 a.snd.fst] ∧ ∃ (l_2 : List Near), List.flatMap En.f d.2.1
  = List.flatMap En.f l_2 ∧ true = true ∧ add1Pre (((), a, ()), (d.1.1, (d.1.2.1.fst, d.1.2.1.snd), ()), l_2, ()) ∧ (∀ (c_1 : Bool × Int × Unit) (d_1 : (Int ×
  (Nat × Nat) × Unit) × List Near × Unit), add1R0 (((), a, ()), (d.1.1, (d.1.2.1.fst, d.1.2.1.snd), ()), l_2, ()) c_1 d_1 → idxOk (wrapF IntKind.i64 ((wrapF
  IntKind.i64 ((Int.ofNat l.length).sub (1 : Int))).sub i)) l.length ∧ ∃ (x : Int), nth (((natOf (wrapF IntKind.i64 ((wrapF IntKind.i64 ((Int.ofNat l.length).sub
  (1 : Int))).sub i))).mul (2 : Nat)).add (0 : Nat)) (List.flatMap En.f l) = some (AV.int IntKind.i64 x) ∧ ∃ (x_2 : Int), nth (((natOf (wrapF IntKind.i64 ((wrapF
  IntKind.i64 ((Int.ofNat l.length).sub (1 : Int))).sub i))).mul (2 : Nat)).add (1 : Nat)) (List.flatMap En.f l) = some (AV.int IntKind.i64 x_2) ∧ ((∃ (a :
  Near), AV.agg [AV.int IntKind.i64 x, AV.int IntKind.i64 x_2] = AV.agg [AV.int IntKind.i64 a.fst, AV.int IntKind.i64 a.snd.fst] ∧ ∃ (l_3 : List Near),
  List.flatMap En.f p = List.flatMap En.f l_3 ∧ true = true ∧ add1Pre (((), a, ()), (K, (g.fst, g.snd), ()), l_3, ()) ∧ (∀ (c_2 : Bool × Int × Unit) (d : (Int ×
  (Nat × Nat) × Unit) × List Near × Unit), add1R0 (((), a, ()), (K, (g.fst, g.snd), ()), l_3, ()) c_2 d → (∃ (l_4 : List Near), List.flatMap En.f d_1.2.1 =
  List.flatMap En.f l_4 ∧ true = true ∧ worst1Pre (((), ()), (d_1.1.1, (d_1.1.2.1.fst, d_1.1.2.1.snd), ()), l_4, ()) ∧ (∀ (c_3 : Near × Bool × Unit) (d_2 : (Int
  × (Nat × Nat) × Unit) × List Near × Unit), worst1R0 (((), ()), (d_1.1.1, (d_1.1.2.1.fst, d_1.1.2.1.snd), ()), l_4, ()) c_3 d_2 → ifp c_3.2.1 ((2 : Nat) ≤ (2 :
  Nat) ∧ ∃ (x : Int), some (AV.int IntKind.i64 c.1.fst) = some (AV.int IntKind.i64 x) ∧ ∃ (x_3 : Int), some (AV.int IntKind.i64 c.1.snd.fst) = some (AV.int
  IntKind.i64 x_3) ∧ ∃ (x_4 : Int), some (AV.int IntKind.i64 c_3.1.fst) = some (AV.int IntKind.i64 x_4) ∧ ∃ (x_5 : Int), some (AV.int IntKind.i64 c_3.1.snd.fst)
  = some (AV.int IntKind.i64 x_5) ∧ ∃ (a : Near), AV.agg [AV.int IntKind.i64 x, AV.int IntKind.i64 x_3] = AV.agg [AV.int IntKind.i64 a.fst, AV.int IntKind.i64
  a.snd.fst] ∧ ∃ (a_1 : Near), AV.agg [AV.int IntKind.i64 x_4, AV.int IntKind.i64 x_5] = AV.agg [AV.int IntKind.i64 a_1.fst, AV.int IntKind.i64 a_1.snd.fst] ∧
  lessPre (a, a_1, ()) ∧ ifp (lessV a a_1) (True ∧ AV.bool false = AV.bool false ∧ true = true ∧ R2 ((l, n, (), (), i, ()), (k, h, ()), (K, g, ()), m, p, ())
  ((), ()) ()) (True ∧ ((∃ (l_5 : List Near), Wk (AV.vs (List.flatMap En.f l) l.length l.length false none (2 : Nat)) (lst En l_5) ∧ ∃ (l : List Near),
  List.flatMap En.f d_2.2.1 = List.flatMap En.f l ∧ ∃ (l_6 : List Near), List.flatMap En.f d.2.1 = List.flatMap En.f l_6 ∧ true = true ∧ N ((l_5, n, (), (),
  wrapF IntKind.i64 (i.add (1 : Int)), ()), (d_2.1.1, (d_2.1.2.1.fst, d_2.1.2.1.snd), ()), (d.1.1, (d.1.2.1.fst, d.1.2.1.snd), ()), l, l_6, ())) ∨ ∃ (l_5 : List
  Near), Wk (AV.vs (List.flatMap En.f l) l.length l.length false none (2 : Nat)) (lst En l_5) ∧ False))) ((2 : Nat) ≤ (2 : Nat) ∧ True ∧ AV.bool false = AV.bool
  false ∧ true = true ∧ R2 ((l, n, (), (), i, ()), (k, h, ()), (K, g, ()), m, p, ()) ((), ()) ())) ∧ True) ∨ False) ∧ True) ∨ ∃ (a : Near), AV.agg [AV.int
  IntKind.i64 x, AV.int IntKind.i64 x_2] = AV.agg [AV.int IntKind.i64 a.fst, AV.int IntKind.i64 a.snd.fst] ∧ False)) ∧ True) ∨ ∃ (a : Near), AV.agg [AV.int
  IntKind.i64 x, AV.int IntKind.i64 x_1] = AV.agg [AV.int IntKind.i64 a.fst, AV.int IntKind.i64 a.snd.fst] ∧ False)) ((2 : Nat) ≤ (2 : Nat) ∧ idxOk i l.length ∧
  ∃ (x : Int), nth (((natOf i).mul (2 : Nat)).add (0 : Nat)) (List.flatMap En.f l) = some (AV.int IntKind.i64 x) ∧ ∃ (x_1 : Int), nth (((natOf i).mul (2 :
  Nat)).add (1 : Nat)) (List.flatMap En.f l) = some (AV.int IntKind.i64 x_1) ∧ ((∃ (a : Near), AV.agg [AV.int IntKind.i64 x, AV.int IntKind.i64 x_1] = AV.agg
  [AV.int IntKind.i64 a.fst, AV.int IntKind.i64 a.snd.fst] ∧ ∃ (l_2 : List Near), List.flatMap En.f d.2.1 = List.flatMap En.f l_2 ∧ true = true ∧ add1Pre (((),
  a, ()), (d.1.1, (d.1.2.1.fst, d.1.2.1.snd), ()), l_2, ()) ∧ (∀ (c : Bool × Int × Unit) (d_1 : (Int × (Nat × Nat) × Unit) × List Near × Unit), add1R0 (((), a,
  ()), (d.1.1, (d.1.2.1.fst, d.1.2.1.snd), ()), l_2, ()) c d_1 → idxOk (wrapF IntKind.i64 ((wrapF IntKind.i64 ((Int.ofNat l.length).sub (1 : Int))).sub i))
  l.length ∧ ∃ (x : Int), nth (((natOf (wrapF IntKind.i64 ((wrapF IntKind.i64 ((Int.ofNat l.length).sub (1 : Int))).sub i))).mul (2 : Nat)).add (0 : Nat))
  (List.flatMap En.f l) = some (AV.int IntKind.i64 x) ∧ ∃ (x_2 : Int), nth (((natOf (wrapF IntKind.i64 ((wrapF IntKind.i64 ((Int.ofNat l.length).sub (1 :
  Int))).sub i))).mul (2 : Nat)).add (1 : Nat)) (List.flatMap En.f l) = some (AV.int IntKind.i64 x_2) ∧ ((∃ (a : Near), AV.agg [AV.int IntKind.i64 x, AV.int
  IntKind.i64 x_2] = AV.agg [AV.int IntKind.i64 a.fst, AV.int IntKind.i64 a.snd.fst] ∧ ∃ (l_3 : List Near), List.flatMap En.f p = List.flatMap En.f l_3 ∧ true =
  true ∧ add1Pre (((), a, ()), (K, (g.fst, g.snd), ()), l_3, ()) ∧ (∀ (c : Bool × Int × Unit) (d : (Int × (Nat × Nat) × Unit) × List Near × Unit), add1R0 (((),
  a, ()), (K, (g.fst, g.snd), ()), l_3, ()) c d → (∃ (l_4 : List Near), List.flatMap En.f d_1.2.1 = List.flatMap En.f l_4 ∧ true = true ∧ worst1Pre (((), ()),
  (d_1.1.1, (d_1.1.2.1.fst, d_1.1.2.1.snd), ()), l_4, ()) ∧ (∀ (c : Near × Bool × Unit) (d_2 : (Int × (Nat × Nat) × Unit) × List Near × Unit), worst1R0 (((),
  ()), (d_1.1.1, (d_1.1.2.1.fst, d_1.1.2.1.snd), ()), l_4, ()) c d_2 → ifp c.2.1 ((2 : Nat) ≤ (2 : Nat) ∧ True ∧ ((∃ (l_5 : List Near), Wk (AV.vs (List.flatMap
  En.f l) l.length l.length false none (2 : Nat)) (lst En l_5) ∧ ∃ (l : List Near), List.flatMap En.f d_2.2.1 = List.flatMap En.f l ∧ ∃ (l_6 : List Near),
  List.flatMap En.f d.2.1 = List.flatMap En.f l_6 ∧ true = true ∧ N ((l_5, n, (), (), wrapF IntKind.i64 (i.add (1 : Int)), ()), (d_2.1.1, (d_2.1.2.1.fst,
  d_2.1.2.1.snd), ()), (d.1.1, (d.1.2.1.fst, d.1.2.1.snd), ()), l, l_6, ())) ∨ ∃ (l_5 : List Near), Wk (AV.vs (List.flatMap En.f l) l.length l.length false none
  (2 : Nat)) (lst En l_5) ∧ False)) ((2 : Nat) ≤ (2 : Nat) ∧ True ∧ ((∃ (l_5 : List Near), Wk (AV.vs (List.flatMap En.f l) l.length l.length false none (2 :
  Nat)) (lst En l_5) ∧ ∃ (l : List Near), List.flatMap En.f d_2.2.1 = List.flatMap En.f l ∧ ∃ (l_6 : List Near), List.flatMap En.f d.2.1 = List.flatMap En.f l_6
  ∧ true = true ∧ N ((l_5, n, (), (), wrapF IntKind.i64 (i.add (1 : Int)), ()), (d_2.1.1, (d_2.1.2.1.fst, d_2.1.2.1.snd), ()), (d.1.1, (d.1.2.1.fst,
  d.1.2.1.snd), ()), l, l_6, ())) ∨ ∃ (l_5 : List Near), Wk (AV.vs (List.flatMap En.f l) l.length l.length false none (2 : Nat)) (lst En l_5) ∧ False))) ∧ True)
  ∨ False) ∧ True) ∨ ∃ (a : Near), AV.agg [AV.int IntKind.i64 x, AV.int IntKind.i64 x_2] = AV.agg [AV.int IntKind.i64 a.fst, AV.int IntKind.i64 a.snd.fst] ∧
  False)) ∧ True) ∨ ∃ (a : Near), AV.agg [AV.int IntKind.i64 x, AV.int IntKind.i64 x_1] = AV.agg [AV.int IntKind.i64 a.fst, AV.int IntKind.i64 a.snd.fst] ∧
  False))) ∧ True) ∨ False) ((True ∧ ∃ (l_1 : List Near), Wk (AV.vs (List.flatMap En.f l) l.length l.length false none (2 : Nat)) (lst En l_1) ∧ ∃ (l_2 : List
  Near), List.flatMap En.f m = List.flatMap En.f l_2 ∧ ∃ (l_3 : List Near), List.flatMap En.f p = List.flatMap En.f l_3 ∧ true = true ∧ R0 ((l, n, (), (), i,
  ()), (k, h, ()), (K, g, ()), m, p, ()) (l_1, n, (), (), ()) ((k, (h.fst, h.snd), ()), (K, (g.fst, g.snd), ()), l_2, l_3, ())) ∨ True ∧ ∃ (l_1 : List Near), Wk
  (AV.vs (List.flatMap En.f l) l.length l.length false none (2 : Nat)) (lst En l_1) ∧ False)) := by kernel_rfl

theorem kaForm0 (l : List Near) (n : Int) (i : Int) (k : Int) (K : Int) (N : kaZ → Prop) (R0 : kaZ → ((List Near) × Int × Unit × Unit × Unit) → ((Int × (Nat × Nat) × Unit) × (Int × (Nat × Nat) × Unit) × (List Near) × (List Near) × Unit) → Prop) (R1 : kaZ → ((List Near) × Int × Unit × Unit × Unit) → ((Int × Unit × Unit) × (Int × Unit × Unit) × Unit) → Prop) (R2 : kaZ → (Unit × Unit) → (Unit) → Prop) : ((runW Try.prog (KLS [(14, addK), (13, worstK), (15, lessK)] [] 30) 100).code none 3 185 (loopBody Try.prog 3 11) (mkT (kaSl0.av id (l, (n, ((), ((), (i, ()))))))) [] (stL false (kaBl0.obs id ((k, ((), ())), ((K, ((), ())), ())))) (postL 0 kaFs (kaAlts R0 R1 R2) (kaZ0 (l, (n, ((), ((), (i, ()))))) ((k, ((), ())), ((K, ((), ())), ()))) N)) =
  ( ifp (!leInt (Int.ofNat l.length) i) (False ∨ true = true ∧ worst0Pre (((), ()), (k, (), ()), ()) ∧ (∀ (c : Near × Bool × Unit) (d : (Int × Unit × Unit) × Unit),
  worst0R0 (((), ()), (k, (), ()), ()) c d → ifp c.2.1 ((2 : Nat) ≤ (2 : Nat) ∧ idxOk i l.length ∧ ∃ (x : Int), nth (((natOf i).mul (2 : Nat)).add (0 : Nat))
  (List.flatMap En.f l) = some (AV.int IntKind.i64 x) ∧ ∃ (x_1 : Int), nth (((natOf i).mul (2 : Nat)).add (1 : Nat)) (List.flatMap En.f l) = some (AV.int
  IntKind.i64 x_1) ∧ ((∃ (a : Near), AV.agg [AV.int IntKind.i64 x, AV.int IntKind.i64 x_1] = AV.agg [AV.int IntKind.i64 a.fst, AV.int IntKind.i64 a.snd.fst] ∧
  False) ∨ ∃ (a : Near), AV.agg [AV.int IntKind.i64 x, AV.int IntKind.i64 x_1] = AV.agg [AV.int IntKind.i64 a.fst, AV.int IntKind.i64 a.snd.fst] ∧ true = true ∧
  add0Pre (((), a, ()), (d.1.1, (), ()), ()) ∧ (∀ (c_1 : Bool × Int × Unit) (d_1 : (Int × Unit × Unit) × Unit), add0R0 (((), a, ()), (d.1.1, (), ()), ()) c_1 d_1
  → idxOk (wrapF IntKind.i64 ((wrapF IntKind.i64 ((Int.ofNat l.length).sub (1 : Int))).sub i)) l.length ∧ ∃ (x : Int), nth (((natOf (wrapF IntKind.i64 ((wrapF
  IntKind.i64 ((Int.ofNat l.length).sub (1 : Int))).sub i))).mul (2 : Nat)).add (0 : Nat)) (List.flatMap En.f l) = some (AV.int IntKind.i64 x) ∧ ∃ (x_2 : Int),
  nth (((natOf (wrapF IntKind.i64 ((wrapF IntKind.i64 ((Int.ofNat l.length).sub (1 : Int))).sub i))).mul (2 : Nat)).add (1 : Nat)) (List.flatMap En.f l) = some
  (AV.int IntKind.i64 x_2) ∧ ((∃ (a : Near), AV.agg [AV.int IntKind.i64 x, AV.int IntKind.i64 x_2] = AV.agg [AV.int IntKind.i64 a.fst, AV.int IntKind.i64
  a.snd.fst] ∧ False) ∨ ∃ (a : Near), AV.agg [AV.int IntKind.i64 x, AV.int IntKind.i64 x_2] = AV.agg [AV.int IntKind.i64 a.fst, AV.int IntKind.i64 a.snd.fst] ∧
  true = true ∧ add0Pre (((), a, ()), (K, (), ()), ()) ∧ (∀ (c_2 : Bool × Int × Unit) (d : (Int × Unit × Unit) × Unit), add0R0 (((), a, ()), (K, (), ()), ()) c_2
  d → False ∨ true = true ∧ worst0Pre (((), ()), (d_1.1.1, (), ()), ()) ∧ (∀ (c_3 : Near × Bool × Unit) (d_2 : (Int × Unit × Unit) × Unit), worst0R0 (((), ()),
  (d_1.1.1, (), ()), ()) c_3 d_2 → ifp c_3.2.1 ((2 : Nat) ≤ (2 : Nat) ∧ ∃ (x : Int), some (AV.int IntKind.i64 c.1.fst) = some (AV.int IntKind.i64 x) ∧ ∃ (x_3 :
  Int), some (AV.int IntKind.i64 c.1.snd.fst) = some (AV.int IntKind.i64 x_3) ∧ ∃ (x_4 : Int), some (AV.int IntKind.i64 c_3.1.fst) = some (AV.int IntKind.i64
  x_4) ∧ ∃ (x_5 : Int), some (AV.int IntKind.i64 c_3.1.snd.fst) = some (AV.int IntKind.i64 x_5) ∧ ∃ (a : Near), AV.agg [AV.int IntKind.i64 x, AV.int IntKind.i64
  x_3] = AV.agg [AV.int IntKind.i64 a.fst, AV.int IntKind.i64 a.snd.fst] ∧ ∃ (a_1 : Near), AV.agg [AV.int IntKind.i64 x_4, AV.int IntKind.i64 x_5] = AV.agg
  [AV.int IntKind.i64 a_1.fst, AV.int IntKind.i64 a_1.snd.fst] ∧ lessPre (a, a_1, ()) ∧ ifp (lessV a a_1) (True ∧ AV.bool false = AV.bool false ∧ true = true ∧
  R2 ((l, n, (), (), i, ()), (k, ((0 : Nat), (0 : Nat)), ()), (K, ((0 : Nat), (0 : Nat)), ()), [], [], ()) ((), ()) ()) (True ∧ ((∃ (l_1 : List Near), Wk (AV.vs
  (List.flatMap En.f l) l.length l.length false none (2 : Nat)) (lst En l_1) ∧ False) ∨ ∃ (l_1 : List Near), Wk (AV.vs (List.flatMap En.f l) l.length l.length
  false none (2 : Nat)) (lst En l_1) ∧ true = true ∧ N ((l_1, n, (), (), wrapF IntKind.i64 (i.add (1 : Int)), ()), (d_2.1.1, ((0 : Nat), (0 : Nat)), ()), (d.1.1,
  ((0 : Nat), (0 : Nat)), ()), [], [], ())))) ((2 : Nat) ≤ (2 : Nat) ∧ True ∧ AV.bool false = AV.bool false ∧ true = true ∧ R2 ((l, n, (), (), i, ()), (k, ((0 :
  Nat), (0 : Nat)), ()), (K, ((0 : Nat), (0 : Nat)), ()), [], [], ()) ((), ()) ())) ∧ True) ∧ (∀ (c_2 : Bool × Int × Unit) (d : (Int × (Nat × Nat) × Unit) × List
  Near × Unit), add0R1 (((), a, ()), (K, (), ()), ()) c_2 d → False ∨ true = true ∧ worst0Pre (((), ()), (d_1.1.1, (), ()), ()) ∧ (∀ (c_3 : Near × Bool × Unit)
  (d : (Int × Unit × Unit) × Unit), worst0R0 (((), ()), (d_1.1.1, (), ()), ()) c_3 d → ifp c_3.2.1 ((2 : Nat) ≤ (2 : Nat) ∧ ∃ (x : Int), some (AV.int IntKind.i64
  c.1.fst) = some (AV.int IntKind.i64 x) ∧ ∃ (x_3 : Int), some (AV.int IntKind.i64 c.1.snd.fst) = some (AV.int IntKind.i64 x_3) ∧ ∃ (x_4 : Int), some (AV.int
  IntKind.i64 c_3.1.fst) = some (AV.int IntKind.i64 x_4) ∧ ∃ (x_5 : Int), some (AV.int IntKind.i64 c_3.1.snd.fst) = some (AV.int IntKind.i64 x_5) ∧ ∃ (a : Near),
  AV.agg [AV.int IntKind.i64 x, AV.int IntKind.i64 x_3] = AV.agg [AV.int IntKind.i64 a.fst, AV.int IntKind.i64 a.snd.fst] ∧ ∃ (a_1 : Near), AV.agg [AV.int
  IntKind.i64 x_4, AV.int IntKind.i64 x_5] = AV.agg [AV.int IntKind.i64 a_1.fst, AV.int IntKind.i64 a_1.snd.fst] ∧ lessPre (a, a_1, ()) ∧ ifp (lessV a a_1) (True
  ∧ AV.bool false = AV.bool false ∧ true = true ∧ R2 ((l, n, (), (), i, ()), (k, ((0 : Nat), (0 : Nat)), ()), (K, ((0 : Nat), (0 : Nat)), ()), [], [], ()) ((),
  ()) ()) (True ∧ ((∃ (l_1 : List Near), Wk (AV.vs (List.flatMap En.f l) l.length l.length false none (2 : Nat)) (lst En l_1) ∧ False) ∨ ∃ (l_1 : List Near), Wk
  (AV.vs (List.flatMap En.f l) l.length l.length false none (2 : Nat)) (lst En l_1) ∧ False))) ((2 : Nat) ≤ (2 : Nat) ∧ True ∧ AV.bool false = AV.bool false ∧
  true = true ∧ R2 ((l, n, (), (), i, ()), (k, ((0 : Nat), (0 : Nat)), ()), (K, ((0 : Nat), (0 : Nat)), ()), [], [], ()) ((), ()) ())) ∧ True) ∧ True)) ∧ (∀ (c_1
  : Bool × Int × Unit) (d_1 : (Int × (Nat × Nat) × Unit) × List Near × Unit), add0R1 (((), a, ()), (d.1.1, (), ()), ()) c_1 d_1 → idxOk (wrapF IntKind.i64
  ((wrapF IntKind.i64 ((Int.ofNat l.length).sub (1 : Int))).sub i)) l.length ∧ ∃ (x : Int), nth (((natOf (wrapF IntKind.i64 ((wrapF IntKind.i64 ((Int.ofNat
  l.length).sub (1 : Int))).sub i))).mul (2 : Nat)).add (0 : Nat)) (List.flatMap En.f l) = some (AV.int IntKind.i64 x) ∧ ∃ (x_2 : Int), nth (((natOf (wrapF
  IntKind.i64 ((wrapF IntKind.i64 ((Int.ofNat l.length).sub (1 : Int))).sub i))).mul (2 : Nat)).add (1 : Nat)) (List.flatMap En.f l) = some (AV.int IntKind.i64
  x_2) ∧ ((∃ (a : Near), AV.agg [AV.int IntKind.i64 x, AV.int IntKind.i64 x_2] = AV.agg [AV.int IntKind.i64 a.fst, AV.int IntKind.i64 a.snd.fst] ∧ False) ∨ ∃ (a
  : Near), AV.agg [AV.int IntKind.i64 x, AV.int IntKind.i64 x_2] = AV.agg [AV.int IntKind.i64 a.fst, AV.int IntKind.i64 a.snd.fst] ∧ true = true ∧ add0Pre (((),
  a, ()), (K, (), ()), ()) ∧ (∀ (c_2 : Bool × Int × Unit) (d : (Int × Unit × Unit) × Unit), add0R0 (((), a, ()), (K, (), ()), ()) c_2 d → (∃ (l_1 : List Near),
  List.flatMap En.f d_1.2.1 = List.flatMap En.f l_1 ∧ true = true ∧ worst1Pre (((), ()), (d_1.1.1, (d_1.1.2.1.fst, d_1.1.2.1.snd), ()), l_1, ()) ∧ (∀ (c_3 : Near
  × Bool × Unit) (d : (Int × (Nat × Nat) × Unit) × List Near × Unit), worst1R0 (((), ()), (d_1.1.1, (d_1.1.2.1.fst, d_1.1.2.1.snd), ()), l_1, ()) c_3 d → ifp
  c_3.2.1 ((2 : Nat) ≤ (2 : Nat) ∧ ∃ (x : Int), some (AV.int IntKind.i64 c.1.fst) = some (AV.int IntKind.i64 x) ∧ ∃ (x_3 : Int), some (AV.int IntKind.i64
  c.1.snd.fst) = some (AV.int IntKind.i64 x_3) ∧ ∃ (x_4 : Int), some (AV.int IntKind.i64 c_3.1.fst) = some (AV.int IntKind.i64 x_4) ∧ ∃ (x_5 : Int), some (AV.int
  IntKind.i64 c_3.1.snd.fst) = some (AV.int IntKind.i64 x_5) ∧ ∃ (a : Near), AV.agg [AV.int IntKind.i64 x, AV.int IntKind.i64 x_3] = AV.agg [AV.int IntKind.i64
  a.fst, AV.int IntKind.i64 a.snd.fst] ∧ ∃ (a_1 : Near), AV.agg [AV.int IntKind.i64 x_4, AV.int IntKind.i64 x_5] = AV.agg [AV.int IntKind.i64 a_1.fst, AV.int
  IntKind.i64 a_1.snd.fst] ∧ lessPre (a, a_1, ()) ∧ ifp (lessV a a_1) (True ∧ AV.bool false = AV.bool false ∧ true = true ∧ R2 ((l, n, (), (), i, ()), (k, ((0 :
  Nat), (0 : Nat)), ()), (K, ((0 : Nat), (0 : Nat)), ()), [], [], ()) ((), ()) ()) (True ∧ ((∃ (l_2 : List Near), Wk (AV.vs (List.flatMap En.f l) l.length
  l.length false none (2 : Nat)) (lst En l_2) ∧ False) ∨ ∃ (l_2 : List Near), Wk (AV.vs (List.flatMap En.f l) l.length l.length false none (2 : Nat)) (lst En
  l_2) ∧ False))) ((2 : Nat) ≤ (2 : Nat) ∧ True ∧ AV.bool false = AV.bool false ∧ true = true ∧ R2 ((l, n, (), (), i, ()), (k, ((0 : Nat), (0 : Nat)), ()), (K,
  ((0 : Nat), (0 : Nat)), ()), [], [], ()) ((), ()) ())) ∧ True) ∨ False) ∧ (∀ (c_2 : Bool × Int × Unit) (d : (Int × (Nat × Nat) × Unit) × List Near × Unit),
  add0R1 (((), a, ()), (K, (), ()), ()) c_2 d → (∃ (l_1 : List Near), List.flatMap En.f d_1.2.1 = List.flatMap En.f l_1 ∧ true = true ∧ worst1Pre (((), ()),
  (d_1.1.1, (d_1.1.2.1.fst, d_1.1.2.1.snd), ()), l_1, ()) ∧ (∀ (c_3 : Near × Bool × Unit) (d_2 : (Int × (Nat × Nat) × Unit) × List Near × Unit), worst1R0 (((),
  ()), (d_1.1.1, (d_1.1.2.1.fst, d_1.1.2.1.snd), ()), l_1, ()) c_3 d_2 → ifp c_3.2.1 ((2 : Nat) ≤ (2 : Nat) ∧ ∃ (x : Int), some (AV.int IntKind.i64 c.1.fst) =
  some (AV.int IntKind.i64 x) ∧ ∃ (x_3 : Int), some (AV.int IntKind.i64 c.1.snd.fst) = some (AV.int IntKind.i64 x_3) ∧ ∃ (x_4 : Int), some (AV.int IntKind.i64
  c_3.1.fst) = some (AV.int IntKind.i64 x_4) ∧ ∃ (x_5 : Int), some (AV.int IntKind.i64 c_3.1.snd.fst) = some (AV.int IntKind.i64 x_5) ∧ ∃ (a : Near), AV.agg
  [AV.int IntKind.i64 x, AV.int IntKind.i64 x_3] = AV.agg [AV.int IntKind.i64 a.fst, AV.int IntKind.i64 a.snd.fst] ∧ ∃ (a_1 : Near), AV.agg [AV.int IntKind.i64
  x_4, AV.int IntKind.i64 x_5] = AV.agg [AV.int IntKind.i64 a_1.fst, AV.int IntKind.i64 a_1.snd.fst] ∧ lessPre (a, a_1, ()) ∧ ifp (lessV a a_1) (True ∧ AV.bool
  false = AV.bool false ∧ true = true ∧ R2 ((l, n, (), (), i, ()), (k, ((0 : Nat), (0 : Nat)), ()), (K, ((0 : Nat), (0 : Nat)), ()), [], [], ()) ((), ()) ())
  (True ∧ ((∃ (l_2 : List Near), Wk (AV.vs (List.flatMap En.f l) l.length l.length false none (2 : Nat)) (lst En l_2) ∧ ∃ (l : List Near), List.flatMap En.f
  d_2.2.1 = List.flatMap En.f l ∧ ∃ (l_3 : List Near), List.flatMap En.f d.2.1 = List.flatMap En.f l_3 ∧ true = true ∧ N ((l_2, n, (), (), wrapF IntKind.i64
  (i.add (1 : Int)), ()), (d_2.1.1, (d_2.1.2.1.fst, d_2.1.2.1.snd), ()), (d.1.1, (d.1.2.1.fst, d.1.2.1.snd), ()), l, l_3, ())) ∨ ∃ (l_2 : List Near), Wk (AV.vs
  (List.flatMap En.f l) l.length l.length false none (2 : Nat)) (lst En l_2) ∧ False))) ((2 : Nat) ≤ (2 : Nat) ∧ True ∧ AV.bool false = AV.bool false ∧ true =
  true ∧ R2 ((l, n, (), (), i, ()), (k, ((0 : Nat), (0 : Nat)), ()), (K, ((0 : Nat), (0 : Nat)), ()), [], [], ()) ((), ()) ())) ∧ True) ∨ False) ∧ True)) ∧
  True)) ((2 : Nat) ≤ (2 : Nat) ∧ idxOk i l.length ∧ ∃ (x : Int), nth (((natOf i).mul (2 : Nat)).add (0 : Nat)) (List.flatMap En.f l) = some (AV.int IntKind.i64
  x) ∧ ∃ (x_1 : Int), nth (((natOf i).mul (2 : Nat)).add (1 : Nat)) (List.flatMap En.f l) = some (AV.int IntKind.i64 x_1) ∧ ((∃ (a : Near), AV.agg [AV.int
  IntKind.i64 x, AV.int IntKind.i64 x_1] = AV.agg [AV.int IntKind.i64 a.fst, AV.int IntKind.i64 a.snd.fst] ∧ False) ∨ ∃ (a : Near), AV.agg [AV.int IntKind.i64 x,
  AV.int IntKind.i64 x_1] = AV.agg [AV.int IntKind.i64 a.fst, AV.int IntKind.i64 a.snd.fst] ∧ true = true ∧ add0Pre (((), a, ()), (d.1.1, (), ()), ()) ∧ (∀ (c :
  Bool × Int × Unit) (d_1 : (Int × Unit × Unit) × Unit), add0R0 (((), a, ()), (d.1.1, (), ()), ()) c d_1 → idxOk (wrapF IntKind.i64 ((wrapF IntKind.i64
  ((Int.ofNat l.length).sub (1 : Int))).sub i)) l.length ∧ ∃ (x : Int), nth (((natOf (wrapF IntKind.i64 ((wrapF IntKind.i64 ((Int.ofNat l.length).sub (1 :
  Int))).sub i))).mul (2 : Nat)).add (0 : Nat)) (List.flatMap En.f l) = some (AV.int IntKind.i64 x) ∧ ∃ (x_2 : Int), nth (((natOf (wrapF IntKind.i64 ((wrapF
  IntKind.i64 ((Int.ofNat l.length).sub (1 : Int))).sub i))).mul (2 : Nat)).add (1 : Nat)) (List.flatMap En.f l) = some (AV.int IntKind.i64 x_2) ∧ ((∃ (a :
  Near), AV.agg [AV.int IntKind.i64 x, AV.int IntKind.i64 x_2] = AV.agg [AV.int IntKind.i64 a.fst, AV.int IntKind.i64 a.snd.fst] ∧ False) ∨ ∃ (a : Near), AV.agg
  [AV.int IntKind.i64 x, AV.int IntKind.i64 x_2] = AV.agg [AV.int IntKind.i64 a.fst, AV.int IntKind.i64 a.snd.fst] ∧ true = true ∧ add0Pre (((), a, ()), (K, (),
  ()), ()) ∧ (∀ (c : Bool × Int × Unit) (d : (Int × Unit × Unit) × Unit), add0R0 (((), a, ()), (K, (), ()), ()) c d → False ∨ true = true ∧ worst0Pre (((), ()),
  (d_1.1.1, (), ()), ()) ∧ (∀ (c : Near × Bool × Unit) (d_2 : (Int × Unit × Unit) × Unit), worst0R0 (((), ()), (d_1.1.1, (), ()), ()) c d_2 → ifp c.2.1 ((2 :
  Nat) ≤ (2 : Nat) ∧ True ∧ ((∃ (l_1 : List Near), Wk (AV.vs (List.flatMap En.f l) l.length l.length false none (2 : Nat)) (lst En l_1) ∧ False) ∨ ∃ (l_1 : List
  Near), Wk (AV.vs (List.flatMap En.f l) l.length l.length false none (2 : Nat)) (lst En l_1) ∧ true = true ∧ N ((l_1, n, (), (), wrapF IntKind.i64 (i.add (1 :
  Int)), ()), (d_2.1.1, ((0 : Nat), (0 : Nat)), ()), (d.1.1, ((0 : Nat), (0 : Nat)), ()), [], [], ()))) ((2 : Nat) ≤ (2 : Nat) ∧ True ∧ ((∃ (l_1 : List Near), Wk
  (AV.vs (List.flatMap En.f l) l.length l.length false none (2 : Nat)) (lst En l_1) ∧ False) ∨ ∃ (l_1 : List Near), Wk (AV.vs (List.flatMap En.f l) l.length
  l.length false none (2 : Nat)) (lst En l_1) ∧ true = true ∧ N ((l_1, n, (), (), wrapF IntKind.i64 (i.add (1 : Int)), ()), (d_2.1.1, ((0 : Nat), (0 : Nat)),
  ()), (d.1.1, ((0 : Nat), (0 : Nat)), ()), [], [], ())))) ∧ True) ∧ (∀ (c : Bool × Int × Unit) (d : (Int × (Nat × Nat) × Unit) × List Near × Unit), add0R1 (((),
  a, ()), (K, (), ()), ()) c d → False ∨ true = true ∧ worst0Pre (((), ()), (d_1.1.1, (), ()), ()) ∧ (∀ (c : Near × Bool × Unit) (d : (Int × Unit × Unit) ×
  Unit), worst0R0 (((), ()), (d_1.1.1, (), ()), ()) c d → ifp c.2.1 ((2 : Nat) ≤ (2 : Nat) ∧ True ∧ ((∃ (l_1 : List Near), Wk (AV.vs (List.flatMap En.f l)
  l.length l.length false none (2 : Nat)) (lst En l_1) ∧ False) ∨ ∃ (l_1 : List Near), Wk (AV.vs (List.flatMap En.f l) l.length l.length false none (2 : Nat))
  (lst En l_1) ∧ False)) ((2 : Nat) ≤ (2 : Nat) ∧ True ∧ ((∃ (l_1 : List Near), Wk (AV.vs (List.flatMap En.f l) l.length l.length false none (2 : Nat)) (lst En
  l_1) ∧ False) ∨ ∃ (l_1 : List Near), Wk (AV.vs (List.flatMap En.f l) l.length l.length false none (2 : Nat)) (lst En l_1) ∧ False))) ∧ True) ∧ True)) ∧ (∀ (c :
  Bool × Int × Unit) (d_1 : (Int × (Nat × Nat) × Unit) × List Near × Unit), add0R1 (((), a, ()), (d.1.1, (), ()), ()) c d_1 → idxOk (wrapF IntKind.i64 ((wrapF
  IntKind.i64 ((Int.ofNat l.length).sub (1 : Int))).sub i)) l.length ∧ ∃ (x : Int), nth (((natOf (wrapF IntKind.i64 ((wrapF IntKind.i64 ((Int.ofNat l.length).sub
  (1 : Int))).sub i))).mul (2 : Nat)).add (0 : Nat)) (List.flatMap En.f l) = some (AV.int IntKind.i64 x) ∧ ∃ (x_2 : Int), nth (((natOf (wrapF IntKind.i64 ((wrapF
  IntKind.i64 ((Int.ofNat l.length).sub (1 : Int))).sub i))).mul (2 : Nat)).add (1 : Nat)) (List.flatMap En.f l) = some (AV.int IntKind.i64 x_2) ∧ ((∃ (a :
  Near), AV.agg [AV.int IntKind.i64 x, AV.int IntKind.i64 x_2] = AV.agg [AV.int IntKind.i64 a.fst, AV.int IntKind.i64 a.snd.fst] ∧ False) ∨ ∃ (a : Near), AV.agg
  [AV.int IntKind.i64 x, AV.int IntKind.i64 x_2] = AV.agg [AV.int IntKind.i64 a.fst, AV.int IntKind.i64 a.snd.fst] ∧ true = true ∧ add0Pre (((), a, ()), (K, (),
  ()), ()) ∧ (∀ (c : Bool × Int × Unit) (d : (Int × Unit × Unit) × Unit), add0R0 (((), a, ()), (K, (), ()), ()) c d → (∃ (l_1 : List Near), List.flatMap En.f
  d_1.2.1 = List.flatMap En.f l_1 ∧ true = true ∧ worst1Pre (((), ()), (d_1.1.1, (d_1.1.2.1.fst, d_1.1.2.1.snd), ()), l_1, ()) ∧ (∀ (c : Near × Bool × Unit) (d :
  (Int × (Nat × Nat) × Unit) × List Near × Unit), worst1R0 (((), ()), (d_1.1.1, (d_1.1.2.1.fst, d_1.1.2.1.snd), ()), l_1, ()) c d → ifp c.2.1 ((2 : Nat) ≤ (2 :
  Nat) ∧ True ∧ ((∃ (l_2 : List Near), Wk (AV.vs (List.flatMap En.f l) l.length l.length false none (2 : Nat)) (lst En l_2) ∧ False) ∨ ∃ (l_2 : List Near), Wk
  (AV.vs (List.flatMap En.f l) l.length l.length false none (2 : Nat)) (lst En l_2) ∧ False)) ((2 : Nat) ≤ (2 : Nat) ∧ True ∧ ((∃ (l_2 : List Near), Wk (AV.vs
  (List.flatMap En.f l) l.length l.length false none (2 : Nat)) (lst En l_2) ∧ False) ∨ ∃ (l_2 : List Near), Wk (AV.vs (List.flatMap En.f l) l.length l.length
  false none (2 : Nat)) (lst En l_2) ∧ False))) ∧ True) ∨ False) ∧ (∀ (c : Bool × Int × Unit) (d : (Int × (Nat × Nat) × Unit) × List Near × Unit), add0R1 (((),
  a, ()), (K, (), ()), ()) c d → (∃ (l_1 : List Near), List.flatMap En.f d_1.2.1 = List.flatMap En.f l_1 ∧ true = true ∧ worst1Pre (((), ()), (d_1.1.1,
  (d_1.1.2.1.fst, d_1.1.2.1.snd), ()), l_1, ()) ∧ (∀ (c : Near × Bool × Unit) (d_2 : (Int × (Nat × Nat) × Unit) × List Near × Unit), worst1R0 (((), ()),
  (d_1.1.1, (d_1.1.2.1.fst, d_1.1.2.1.snd), ()), l_1, ()) c d_2 → ifp c.2.1 ((2 : Nat) ≤ (2 : Nat) ∧ True ∧ ((∃ (l_2 : List Near), Wk (AV.vs (List.flatMap En.f
  l) l.length l.length false none (2 : Nat)) (lst En l_2) ∧ ∃ (l : List Near), List.flatMap En.f d_2.2.1 = List.flatMap En.f l ∧ ∃ (l_3 : List Near),
  List.flatMap En.f d.2.1 = List.flatMap En.f l_3 ∧ true = true ∧ N ((l_2, n, (), (), wrapF IntKind.i64 (i.add (1 : Int)), ()), (d_2.1.1, (d_2.1.2.1.fst,
  d_2.1.2.1.snd), ()), (d.1.1, (d.1.2.1.fst, d.1.2.1.snd), ()), l, l_3, ())) ∨ ∃ (l_2 : List Near), Wk (AV.vs (List.flatMap En.f l) l.length l.length false none
  (2 : Nat)) (lst En l_2) ∧ False)) ((2 : Nat) ≤ (2 : Nat) ∧ True ∧ ((∃ (l_2 : List Near), Wk (AV.vs (List.flatMap En.f l) l.length l.length false none (2 :
  Nat)) (lst En l_2) ∧ ∃ (l : List Near), List.flatMap En.f d_2.2.1 = List.flatMap En.f l ∧ ∃ (l_3 : List Near), List.flatMap En.f d.2.1 = List.flatMap En.f l_3
  ∧ true = true ∧ N ((l_2, n, (), (), wrapF IntKind.i64 (i.add (1 : Int)), ()), (d_2.1.1, (d_2.1.2.1.fst, d_2.1.2.1.snd), ()), (d.1.1, (d.1.2.1.fst,
  d.1.2.1.snd), ()), l, l_3, ())) ∨ ∃ (l_2 : List Near), Wk (AV.vs (List.flatMap En.f l) l.length l.length false none (2 : Nat)) (lst En l_2) ∧ False))) ∧ True)
  ∨ False) ∧ True)) ∧ True))) ∧ True) ((True ∧ ∃ (l_1 : List Near), Wk (AV.vs (List.flatMap En.f l) l.length l.length false none (2 : Nat)) (lst En l_1) ∧ False)
  ∨ True ∧ ∃ (l_1 : List Near), Wk (AV.vs (List.flatMap En.f l) l.length l.length false none (2 : Nat)) (lst En l_1) ∧ true = true ∧ R1 ((l, n, (), (), i, ()),
  (k, ((0 : Nat), (0 : Nat)), ()), (K, ((0 : Nat), (0 : Nat)), ()), [], [], ()) (l_1, n, (), (), ()) ((k, (), ()), (K, (), ()), ()))) := by kernel_rfl

def kaInv : kaZ → Prop := fun ((l, (n, ((), ((), (i, ()))))), ((k, (h, ())), ((K, (g, ())), (m, (p, ()))))) => ∃ q : Nat, i = q ∧ q ≤ l.length ∧ l.length ≤ 150 ∧ n = k ∧ K = k ∧ 0 ≤ k ∧ k ≤ 150 ∧ h = (m.length, m.length) ∧ g = (p.length, p.length) ∧ TopOk k m (topL k (l.take q)) ∧ TopOk k p (topL k (l.reverse.take q))
def kaMu : kaZ → Nat := fun ((l, (n, ((), ((), (i, ()))))), ((k, (h, ())), ((K, (g, ())), (m, (p, ()))))) => l.length - i.toNat
def kaR0 : kaZ → ((List Near) × Int × Unit × Unit × Unit) → ((Int × (Nat × Nat) × Unit) × (Int × (Nat × Nat) × Unit) × (List Near) × (List Near) × Unit) → Prop := fun ((l, (n, ((), ((), (i, ()))))), ((k, (h, ())), ((K, (g, ())), (m, (p, ()))))) (l2, n2, _) ((k2, h2, _), (K2, g2, _), m2, p2, _) => l2 = l ∧ n2 = k ∧ k2 = k ∧ K2 = k ∧ 0 ≤ k ∧ k ≤ 150 ∧ l.length ≤ 150 ∧ h2 = (m2.length, m2.length) ∧ g2 = (p2.length, p2.length) ∧ TopOk k m2 (topL k l) ∧ TopOk k p2 (topL k l.reverse)
def kaR1 : kaZ → ((List Near) × Int × Unit × Unit × Unit) → ((Int × Unit × Unit) × (Int × Unit × Unit) × Unit) → Prop := fun ((l, (n, ((), ((), (i, ()))))), ((k, (h, ())), ((K, (g, ())), (m, (p, ()))))) (l2, n2, _) ((k2, _), (K2, _), _) => l2 = l ∧ n2 = k ∧ k2 = k ∧ K2 = k ∧ 0 ≤ k ∧ k ≤ 150 ∧ l.length ≤ 150 ∧ topL k l = []
def kaR2 : kaZ → (Unit × Unit) → (Unit) → Prop := fun ((l, (n, ((), ((), (i, ()))))), ((k, (h, ())), ((K, (g, ())), (m, (p, ()))))) _ _ => False
noncomputable def kaC : LoopC := loopC 0 kaFs (kaAlts kaR0 kaR1 kaR2) kaInv

theorem kaStep : stepsOk Try.prog (KLS [(14, addK), (13, worstK), (15, lessK)] [] 30) 100 3 185 (loopBody Try.prog 3 11) 0 false kaFs (kaAlts kaR0 kaR1 kaR2) kaInv kaMu ⟨_, _, kaSl, kaBl, fun x y => (x, y)⟩ := by
  intro x y hz
  obtain ⟨l, n, _, _, i, _⟩ := x
  obtain ⟨⟨k, h, _⟩, ⟨K, g, _⟩, m, p, _⟩ := y
  refine (kaForm l n i k h K g m p _ _ _ _).mpr ?_
  obtain ⟨q, rfl, hq, hl, hn, hK, k0, k1, rfl, rfl, hT, hU⟩ := hz
  obtain rfl : k = n := hn.symm
  obtain rfl : k = K := hK.symm
  rw [ifp_lt]
  split
  · rename_i h
    have hql : q < l.length := by simpa using h
    have hrl : l.length - 1 - q < l.length := by omega
    have e := rev_at hql (by omega)
    simp only [e, natOf_nat]
    have hml : m.length ≤ 999999 := by have := hT.len; have := topL_len k (l.take q); rw [List.length_take] at this; omega
    have hpl : p.length ≤ 999999 := by have := hU.len; have := topL_len k (l.reverse.take q); rw [List.length_take] at this; omega
    refine Or.inl ⟨m, rfl, (by first | exact trivial | exact rfl), rfl, fun c d hr => ?_, trivial⟩
    obtain ⟨w, full, _⟩ := c
    obtain ⟨⟨k2, h2, _⟩, m2, _⟩ := d
    obtain ⟨hw, hk2, hh2, hm2⟩ := hr
    obtain rfl : k = k2 := hk2.symm
    obtain rfl : h2 = (m.length, m.length) := hh2
    obtain rfl : m = m2 := hm2.symm
    rw [ifp_if]
    split
    · rename_i hf
      obtain rfl : full = true := hf
      refine ⟨by decide, idx_ok hql, _, nth_near0 hql, _, nth_near1 hql, Or.inl ⟨l[q], rfl, m, rfl, (by first | exact trivial | exact rfl), ⟨rfl, hT.h, hml, k0⟩, fun c1 d1 hr1 => ?_, trivial⟩⟩
      obtain ⟨b1, e1, _⟩ := c1
      obtain ⟨⟨k3, h3, _⟩, m3, _⟩ := d1
      obtain ⟨he1, hk3, hh3, ha1⟩ := hr1
      obtain rfl : k = k3 := hk3.symm
      obtain rfl : h3 = (m3.length, m3.length) := hh3
      have hT2 := hT.top k0 ha1 rfl
      rw [List.take_append_getElem hql] at hT2
      refine ⟨idx_ok hrl, _, nth_near0 hrl, _, nth_near1 hrl, Or.inl ⟨l[l.length - 1 - q], rfl, p, rfl, (by first | exact trivial | exact rfl), ⟨rfl, hU.h, hpl, k0⟩, fun c2 d2 hr2 => ?_, trivial⟩⟩
      obtain ⟨b2, e2, _⟩ := c2
      obtain ⟨⟨k4, h4, _⟩, p3, _⟩ := d2
      obtain ⟨he2, hk4, hh4, ha2⟩ := hr2
      obtain rfl : k = k4 := hk4.symm
      obtain rfl : h4 = (p3.length, p3.length) := hh4
      have hU2 := hU.top k0 ha2 rfl
      rw [rev_take hql] at hU2
      refine Or.inl ⟨m3, rfl, (by first | exact trivial | exact rfl), rfl, fun c3 d3 hr3 => ?_, trivial⟩
      obtain ⟨w3, is3, _⟩ := c3
      obtain ⟨⟨k5, h5, _⟩, m5, _⟩ := d3
      obtain ⟨hw3, hk5, hh5, hm5⟩ := hr3
      obtain rfl : k = k5 := hk5.symm
      obtain rfl : h5 = (m3.length, m3.length) := hh5
      obtain rfl : m3 = m5 := hm5.symm
      obtain ⟨f1, f2, f3⟩ := worst_full hT hw
      have hl3 : ((topL k (l.take (q + 1))).length : Int) = k := by
        rw [topL_len, List.length_take] at f1 ⊢; omega
      have his : is3 = true := (congrArg Prod.snd hw3).trans (worst_is hT2 hl3 f2)
      subst his
      obtain ⟨g1, g2, g3⟩ := worst_full hT2 hw3
      have hlt : lessV w w3 = false := by
        obtain ⟨j, hj⟩ : ∃ j, (topL k (l.take (q + 1))).length = j + 1 := ⟨(topL k (l.take (q + 1))).length - 1, by omega⟩
        have hmem : w3 ∈ topL k (l.take (q + 1)) := by rw [g3, last_get w3 hj]; exact List.getElem_mem _
        rw [← List.take_append_getElem hql] at hmem
        have := top_mono (X := l.take q) k0 f1 f2 hmem
        obtain ⟨j0, hj0⟩ : ∃ j0, (topL k (l.take q)).length = j0 + 1 := ⟨(topL k (l.take q)).length - 1, by omega⟩
        rw [last_get _ hj0] at this
        rw [f3, last_get _ hj0]; exact this
      rw [ifp_pos rfl]
      refine ⟨by decide, _, rfl, _, rfl, _, rfl, _, rfl, w, rfl, w3, rfl, trivial, ?_⟩
      rw [ifp_neg hlt]
      refine ⟨trivial, Or.inl ⟨l, Wk.refl _, m3, rfl, p3, rfl, (by first | exact trivial | exact rfl), ?_⟩⟩
      exact ⟨⟨q + 1, by rw [wsucc (by omega)], hql, hl, rfl, rfl, k0, k1, rfl, rfl, hT2, hU2⟩, by rw [wsucc (by omega)]; show l.length - (q + 1) < l.length - q; omega, fun _ _ h => h, fun _ _ h => h, fun _ _ h => h, trivial⟩
    · rename_i hf
      refine ⟨by decide, idx_ok hql, _, nth_near0 hql, _, nth_near1 hql, Or.inl ⟨l[q], rfl, m, rfl, (by first | exact trivial | exact rfl), ⟨rfl, hT.h, hml, k0⟩, fun c1 d1 hr1 => ?_, trivial⟩⟩
      obtain ⟨b1, e1, _⟩ := c1
      obtain ⟨⟨k3, h3, _⟩, m3, _⟩ := d1
      obtain ⟨he1, hk3, hh3, ha1⟩ := hr1
      obtain rfl : k = k3 := hk3.symm
      obtain rfl : h3 = (m3.length, m3.length) := hh3
      have hT2 := hT.top k0 ha1 rfl
      rw [List.take_append_getElem hql] at hT2
      refine ⟨idx_ok hrl, _, nth_near0 hrl, _, nth_near1 hrl, Or.inl ⟨l[l.length - 1 - q], rfl, p, rfl, (by first | exact trivial | exact rfl), ⟨rfl, hU.h, hpl, k0⟩, fun c2 d2 hr2 => ?_, trivial⟩⟩
      obtain ⟨b2, e2, _⟩ := c2
      obtain ⟨⟨k4, h4, _⟩, p3, _⟩ := d2
      obtain ⟨he2, hk4, hh4, ha2⟩ := hr2
      obtain rfl : k = k4 := hk4.symm
      obtain rfl : h4 = (p3.length, p3.length) := hh4
      have hU2 := hU.top k0 ha2 rfl
      rw [rev_take hql] at hU2
      refine Or.inl ⟨m3, rfl, (by first | exact trivial | exact rfl), rfl, fun c3 d3 hr3 => ?_, trivial⟩
      obtain ⟨w3, is3, _⟩ := c3
      obtain ⟨⟨k5, h5, _⟩, m5, _⟩ := d3
      obtain ⟨hw3, hk5, hh5, hm5⟩ := hr3
      obtain rfl : k = k5 := hk5.symm
      obtain rfl : h5 = (m3.length, m3.length) := hh5
      obtain rfl : m3 = m5 := hm5.symm
      rw [ifp_if]
      split
      · refine ⟨by decide, ?_⟩
        refine ⟨trivial, Or.inl ⟨l, Wk.refl _, m3, rfl, p3, rfl, (by first | exact trivial | exact rfl), ?_⟩⟩
        exact ⟨⟨q + 1, by rw [wsucc (by omega)], hql, hl, rfl, rfl, k0, k1, rfl, rfl, hT2, hU2⟩, by rw [wsucc (by omega)]; show l.length - (q + 1) < l.length - q; omega, fun _ _ h => h, fun _ _ h => h, fun _ _ h => h, trivial⟩
      · refine ⟨by decide, ?_⟩
        refine ⟨trivial, Or.inl ⟨l, Wk.refl _, m3, rfl, p3, rfl, (by first | exact trivial | exact rfl), ?_⟩⟩
        exact ⟨⟨q + 1, by rw [wsucc (by omega)], hql, hl, rfl, rfl, k0, k1, rfl, rfl, hT2, hU2⟩, by rw [wsucc (by omega)]; show l.length - (q + 1) < l.length - q; omega, fun _ _ h => h, fun _ _ h => h, fun _ _ h => h, trivial⟩
  · rename_i h
    have hql : ¬ q < l.length := by simpa using h
    rw [take_all hql] at hT
    rw [take_all (by simpa using hql)] at hU
    exact Or.inl ⟨trivial, l, Wk.refl _, m, rfl, p, rfl, (by first | exact trivial | exact rfl), rfl, rfl, rfl, rfl, k0, k1, hl, rfl, rfl, hT, hU⟩
theorem kaStep0 : stepsOk Try.prog (KLS [(14, addK), (13, worstK), (15, lessK)] [] 30) 100 3 185 (loopBody Try.prog 3 11) 0 false kaFs (kaAlts kaR0 kaR1 kaR2) kaInv kaMu ⟨_, _, kaSl0, kaBl0, kaZ0⟩ := by
  intro x y hz
  obtain ⟨l, n, _, _, i, _⟩ := x
  obtain ⟨⟨k, _, _⟩, ⟨K, _, _⟩, _⟩ := y
  refine (kaForm0 l n i k K _ _ _ _).mpr ?_
  obtain ⟨q, rfl, hq, hl, hn, hK, k0, k1, _, _, hT, hU⟩ := hz
  obtain rfl : k = n := hn.symm
  obtain rfl : k = K := hK.symm
  rw [ifp_lt]
  split
  · rename_i h
    have hql : q < l.length := by simpa using h
    have hrl : l.length - 1 - q < l.length := by omega
    have e := rev_at hql (by omega)
    simp only [e, natOf_nat]
    refine Or.inr ⟨(by first | exact trivial | exact rfl), trivial, fun c d hr => ?_, trivial⟩
    obtain ⟨w, full, _⟩ := c
    obtain ⟨⟨k2, _⟩, _⟩ := d
    obtain ⟨hw, hk2⟩ := hr
    obtain rfl : k = k2 := hk2.symm
    rw [ifp_if]
    split
    · rename_i hf
      exact absurd ((congrArg Prod.snd hw).trans (worst_no k)) (by simp [show full = true from hf])
    · rename_i hf
      refine ⟨by decide, idx_ok hql, _, nth_near0 hql, _, nth_near1 hql, Or.inr ⟨l[q], rfl, (by first | exact trivial | exact rfl), k0, fun c1 d1 hr1 => ?_, fun c1 d1 hr1 => ?_, trivial⟩⟩
      · obtain ⟨b1, e1, _⟩ := c1
        obtain ⟨⟨k3, _⟩, _⟩ := d1
        obtain ⟨hb1, he1, hk3, hz1⟩ := hr1
        obtain rfl : k = k3 := hk3.symm
        have hz1' : k = 0 := hz1
        have hT2 := hT.top (n := l[q]) (b := b1) (m2 := []) k0 (by rw [addOk, if_neg (by simp; omega), if_pos (Or.inl hz1')]; exact ⟨hb1, rfl⟩) rfl
        rw [List.take_append_getElem hql] at hT2
        refine ⟨idx_ok hrl, _, nth_near0 hrl, _, nth_near1 hrl, Or.inr ⟨l[l.length - 1 - q], rfl, (by first | exact trivial | exact rfl), k0, fun c2 d2 hr2 => ?_, fun c2 d2 hr2 => ?_, trivial⟩⟩
        · obtain ⟨b2, e2, _⟩ := c2
          obtain ⟨⟨k4, _⟩, _⟩ := d2
          obtain ⟨hb2, he2, hk4, hz2⟩ := hr2
          obtain rfl : k = k4 := hk4.symm
          have hU2 := hU.top (n := l[l.length - 1 - q]) (b := b2) (m2 := []) k0 (by rw [addOk, if_neg (by simp; omega), if_pos (Or.inl hz1')]; exact ⟨hb2, rfl⟩) rfl
          rw [rev_take hql] at hU2
          refine Or.inr ⟨(by first | exact trivial | exact rfl), trivial, fun c3 d3 hr3 => ?_, trivial⟩
          obtain ⟨w3, is3, _⟩ := c3
          obtain ⟨⟨k5, _⟩, _⟩ := d3
          obtain ⟨hw3, hk5⟩ := hr3
          obtain rfl : k = k5 := hk5.symm
          rw [ifp_if]
          split
          · refine ⟨by decide, ?_⟩
            refine ⟨trivial, Or.inr ⟨l, Wk.refl _, (by first | exact trivial | exact rfl), ?_⟩⟩
            exact ⟨⟨q + 1, by rw [wsucc (by omega)], hql, hl, rfl, rfl, k0, k1, rfl, rfl, hT2, hU2⟩, by rw [wsucc (by omega)]; show l.length - (q + 1) < l.length - q; omega, fun _ _ h => h, fun _ _ h => h, fun _ _ h => h, trivial⟩
          · refine ⟨by decide, ?_⟩
            refine ⟨trivial, Or.inr ⟨l, Wk.refl _, (by first | exact trivial | exact rfl), ?_⟩⟩
            exact ⟨⟨q + 1, by rw [wsucc (by omega)], hql, hl, rfl, rfl, k0, k1, rfl, rfl, hT2, hU2⟩, by rw [wsucc (by omega)]; show l.length - (q + 1) < l.length - q; omega, fun _ _ h => h, fun _ _ h => h, fun _ _ h => h, trivial⟩
        · exfalso
          obtain ⟨_, _, _, hz2, _⟩ := hr2
          have hz2' : 0 < k := hz2
          omega
      · obtain ⟨b1, e1, _⟩ := c1
        obtain ⟨⟨k3, h3, _⟩, m3, _⟩ := d1
        obtain ⟨hb1, he1, hk3, hz1, hh3, hm3⟩ := hr1
        obtain rfl : k = k3 := hk3.symm
        have hm3' : m3 = [l[q]] := hm3
        have hz1' : 0 < k := hz1
        obtain rfl : h3 = (m3.length, m3.length) := by rw [hm3']; exact hh3
        have hT2 := hT.top (n := l[q]) (b := b1) (m2 := m3) k0 (by rw [addOk, if_pos (by simp; omega), hm3']; exact ⟨hb1, List.Perm.refl _, fun j hj h0 => by simp at hj; omega⟩) rfl
        rw [List.take_append_getElem hql] at hT2
        refine ⟨idx_ok hrl, _, nth_near0 hrl, _, nth_near1 hrl, Or.inr ⟨l[l.length - 1 - q], rfl, (by first | exact trivial | exact rfl), k0, fun c2 d2 hr2 => ?_, fun c2 d2 hr2 => ?_, trivial⟩⟩
        · exfalso
          obtain ⟨_, _, _, hz2⟩ := hr2
          have hz2' : k = 0 := hz2
          omega
        · obtain ⟨b2, e2, _⟩ := c2
          obtain ⟨⟨k4, h4, _⟩, p3, _⟩ := d2
          obtain ⟨hb2, he2, hk4, hz2, hh4, hp3⟩ := hr2
          obtain rfl : k = k4 := hk4.symm
          have hp3' : p3 = [l[l.length - 1 - q]] := hp3
          obtain rfl : h4 = (p3.length, p3.length) := by rw [hp3']; exact hh4
          have hU2 := hU.top (n := l[l.length - 1 - q]) (b := b2) (m2 := p3) k0 (by rw [addOk, if_pos (by simp; omega), hp3']; exact ⟨hb2, List.Perm.refl _, fun j hj h0 => by simp at hj; omega⟩) rfl
          rw [rev_take hql] at hU2
          refine Or.inl ⟨m3, rfl, (by first | exact trivial | exact rfl), rfl, fun c3 d3 hr3 => ?_, trivial⟩
          obtain ⟨w3, is3, _⟩ := c3
          obtain ⟨⟨k5, h5, _⟩, m5, _⟩ := d3
          obtain ⟨hw3, hk5, hh5, hm5⟩ := hr3
          obtain rfl : k = k5 := hk5.symm
          obtain rfl : h5 = (m3.length, m3.length) := hh5
          obtain rfl : m3 = m5 := hm5.symm
          rw [ifp_if]
          split
          · refine ⟨by decide, ?_⟩
            refine ⟨trivial, Or.inl ⟨l, Wk.refl _, m3, rfl, p3, rfl, (by first | exact trivial | exact rfl), ?_⟩⟩
            exact ⟨⟨q + 1, by rw [wsucc (by omega)], hql, hl, rfl, rfl, k0, k1, rfl, rfl, hT2, hU2⟩, by rw [wsucc (by omega)]; show l.length - (q + 1) < l.length - q; omega, fun _ _ h => h, fun _ _ h => h, fun _ _ h => h, trivial⟩
          · refine ⟨by decide, ?_⟩
            refine ⟨trivial, Or.inl ⟨l, Wk.refl _, m3, rfl, p3, rfl, (by first | exact trivial | exact rfl), ?_⟩⟩
            exact ⟨⟨q + 1, by rw [wsucc (by omega)], hql, hl, rfl, rfl, k0, k1, rfl, rfl, hT2, hU2⟩, by rw [wsucc (by omega)]; show l.length - (q + 1) < l.length - q; omega, fun _ _ h => h, fun _ _ h => h, fun _ _ h => h, trivial⟩
  · rename_i h
    have hql : ¬ q < l.length := by simpa using h
    rw [take_all hql] at hT
    have hTl := hT.len
    exact Or.inr ⟨trivial, l, Wk.refl _, (by first | exact trivial | exact rfl), rfl, rfl, rfl, rfl, k0, k1, hl, List.length_eq_zero_iff.1 (by simpa using hTl.symm)⟩
theorem kaOk : LoopOk Try.prog 3 185 (.loop (loopBody Try.prog 3 11)) kaC := loop_ok kaMu mixed (KLS_ok (cc_cons addCc (cc_cons worstCc (cc_cons lessCc (cc_nil))))) rfl (steps_cons kaStep (steps_cons kaStep0 (steps_nil)))

noncomputable def Kn : KEnc Near := KEnc.ints .i64 (fun a => [a.1, a.2.1]) 2 (fun _ => rfl) (fun a b h => by
  obtain ⟨a1, a2, _⟩ := a
  obtain ⟨b1, b2, _⟩ := b
  simp at h
  rw [h.1, h.2])
abbrev Vi64 : VEnc Int := VEnc.int .i64
/-- How often each entry is left. -/
def Left (M : Mp Near Int) (f : Near → Int) : Prop := ∀ y, (M.find y).getD 0 = f y
theorem left_look {M : Mp Near Int} {f : Near → Int} (h : Left M f) (y : Near) : lookIs (.agg [.int .i64 y.1, .int .i64 y.2.1]) (M.enc Kn Vi64) (.int .i64 0) (.int .i64 (f y)) (M.find y).isSome := by
  have h1 := M.look (KE := Kn) (VE := Vi64) y (.int .i64 0)
  have h2 := h y
  cases h3 : M.find y with
  | none => rw [h3] at h1 h2; simp at h2; rw [← h2]; exact h1
  | some v => rw [h3] at h1 h2; simp at h2; rw [← h2]; exact h1
theorem left_ent {M : Mp Near Int} {f : Near → Int} (h : Left M f) (y : Near) : entIs (.agg [.int .i64 y.1, .int .i64 y.2.1]) (M.enc Kn Vi64) M.clock (.int .i64 0) (.int .i64 (f y)) ((M.ent y 0).bornAt y) ((M.ent y 0).enc Kn Vi64) (M.ent y 0).clock := by
  have h1 := M.ent_is (KE := Kn) (VE := Vi64) y 0
  rw [h y] at h1; exact h1
theorem left_look_ent {M : Mp Near Int} {f : Near → Int} (h : Left M f) (y : Near) : lookIs (.agg [.int .i64 y.1, .int .i64 y.2.1]) ((M.ent y 0).enc Kn Vi64) (.int .i64 0) (.int .i64 (f y)) true := by
  have h1 := M.ent_find y 0
  rw [h y] at h1
  exact Mp.look_some (KE := Kn) (VE := Vi64) h1 (.int .i64 0)
theorem left_st {M : Mp Near Int} (y : Near) (v : Int) (hc : M.clock ≤ 1000) : stIs ((M.ent y 0).bornAt y) (.int .i64 v) ((M.ent y 0).enc Kn Vi64) (((M.ent y 0).upd y v).enc Kn Vi64) :=
  Mp.st_is (M.ent_find y 0) v (by have := M.ent_clock_le y 0; omega)
theorem left_upd {M : Mp Near Int} {f g : Near → Int} (h : Left M f) (y : Near) (v : Int) (hv : g y = v) (hg : ∀ z, z ≠ y → g z = f z) : Left ((M.ent y 0).upd y v) g := by
  intro z
  rw [Mp.ent_upd_find]
  by_cases c : z = y
  · rw [if_pos c, c, hv]; rfl
  · rw [if_neg c, h z, hg z c]
theorem count_snoc {l : List Near} {q : Nat} (h : q < l.length) (z : Near) : ((l.take (q + 1)).count z : Int) = ((l.take q).count z : Int) + (if z = l[q] then 1 else 0) := by
  rw [← List.take_append_getElem h, List.count_append, List.count_singleton]
  by_cases c : z = l[q]
  · subst c; simp
  · rw [if_neg c, if_neg (by simpa using fun e => c e.symm)]; simp
theorem count_le {l : List Near} (z : Near) : l.count z ≤ l.length := List.count_le_length

/-! The loop kb of wayfinder/wayfinderlaw04.RankKeeps. -/
abbrev kbZ := ((List Near) × (List Near) × Unit × Int × Unit) × ((Mp Near Int) × Unit)
noncomputable def kbSl : Tel ((List Near) × (List Near) × Unit × Int × Unit) := .cons 0 (.lst En) (.cons 14 (.lst En) (.cons 15 (.mapr 0) (.cons 16 (.int .i64) (.nil))))
noncomputable def kbBl : BTel ((Mp Near Int) × Unit) := .cons (.mp Kn Vi64) (.nil)
noncomputable def kbFs : List (LForm kbZ) := [⟨_, _, kbSl, kbBl, fun x y => (x, y)⟩]
noncomputable def kbAlts (R0 : kbZ → ((List Near) × (List Near) × Unit × Unit) → ((Mp Near Int) × Unit) → Prop) : List (Alt kbZ) := [⟨.exit 2, (List Near) × (List Near) × Unit × Unit, (Mp Near Int) × Unit, .cons 0 (.lst En) (.cons 14 (.lst En) (.cons 15 (.mapr 0) (.nil))), .cons (.mp Kn Vi64) (.nil), R0⟩]

theorem kbForm (l : List Near) (x : List Near) (i : Int) (M : Mp Near Int) (N : kbZ → Prop) (R0 : kbZ → ((List Near) × (List Near) × Unit × Unit) → ((Mp Near Int) × Unit) → Prop) : ((runW Try.prog (KLX [] [] [38] [] []) 100).code none 3 185 (loopBody Try.prog 3 24) (mkT (kbSl.av id (l, (x, ((), (i, ())))))) [] (stL false (kbBl.obs id (M, ()))) (postL 0 kbFs (kbAlts R0) ((l, (x, ((), (i, ())))), (M, ())) N)) =
  ( ifp (!leInt (Int.ofNat l.length) i) (idxOk i l.length ∧ ∃ (x_1 : Int), nth (((natOf i).mul (2 : Nat)).add (0 : Nat)) (List.flatMap En.f l) = some (AV.int
  IntKind.i64 x_1) ∧ ∃ (x_2 : Int), nth (((natOf i).mul (2 : Nat)).add (1 : Nat)) (List.flatMap En.f l) = some (AV.int IntKind.i64 x_2) ∧ ∃ (c : Bool), ∃ (x_3 :
  Int), lookIs (AV.agg [AV.int IntKind.i64 x_1, AV.int IntKind.i64 x_2]) (Mp.enc Kn Vi64 M) (AV.int IntKind.i64 (0 : Int)) (AV.int IntKind.i64 x_3) c ∧ ∃ (n :
  Nat), ∃ (es' : List AEntry), ∃ (c' : Nat), ∃ (x_4 : Int), entIs (AV.agg [AV.int IntKind.i64 x_1, AV.int IntKind.i64 x_2]) (Mp.enc Kn Vi64 M) M.clock (AV.int
  IntKind.i64 (0 : Int)) (AV.int IntKind.i64 x_4) n es' c' ∧ ∃ (es'_1 : List AEntry), stIs n (AV.int IntKind.i64 (wrapF IntKind.i64 (x_3.add (1 : Int)))) es'
  es'_1 ∧ True ∧ ((∃ (c : Bool), ∃ (x : Int), lookIs (AV.agg [AV.int IntKind.i64 x_1, AV.int IntKind.i64 x_2]) es' (AV.int IntKind.i64 (0 : Int)) (AV.int
  IntKind.i64 x) c ∧ AV.int IntKind.i64 x = AV.int IntKind.i64 x_3) ∧ True) ∧ True ∧ ∃ (l_1 : List Near), Wk (AV.vs (List.flatMap En.f l) l.length l.length false
  none (2 : Nat)) (lst En l_1) ∧ ∃ (l : List Near), Wk (AV.vs (List.flatMap En.f x) x.length x.length false none (2 : Nat)) (lst En l) ∧ ∃ (m : Mp Near Int),
  es'_1 = Mp.enc Kn Vi64 m ∧ c' = m.clock ∧ true = true ∧ N ((l_1, l, (), wrapF IntKind.i64 (i.add (1 : Int)), ()), m, ())) (True ∧ ∃ (l_1 : List Near), Wk
  (AV.vs (List.flatMap En.f l) l.length l.length false none (2 : Nat)) (lst En l_1) ∧ ∃ (l_2 : List Near), Wk (AV.vs (List.flatMap En.f x) x.length x.length
  false none (2 : Nat)) (lst En l_2) ∧ ∃ (m : Mp Near Int), Mp.enc Kn Vi64 M = Mp.enc Kn Vi64 m ∧ M.clock = m.clock ∧ true = true ∧ R0 ((l, x, (), i, ()), M, ())
  (l_1, l_2, (), ()) (m, ()))) := by kernel_rfl

def kbInv : kbZ → Prop := fun ((l, (x, ((), (i, ())))), (M, ())) => ∃ q : Nat, i = q ∧ q ≤ l.length ∧ l.length ≤ 150 ∧ Left M (fun y => ((l.take q).count y : Int)) ∧ M.clock ≤ q
def kbMu : kbZ → Nat := fun ((l, (x, ((), (i, ())))), (M, ())) => l.length - i.toNat
def kbR0 : kbZ → ((List Near) × (List Near) × Unit × Unit) → ((Mp Near Int) × Unit) → Prop := fun ((l, (x, ((), (i, ())))), (M, ())) (l2, x2, _) (M2, _) => l2 = l ∧ x2 = x ∧ l.length ≤ 150 ∧ Left M2 (fun y => (l.count y : Int)) ∧ M2.clock ≤ 150
noncomputable def kbC : LoopC := loopC 0 kbFs (kbAlts kbR0) kbInv

theorem kbStep : stepsOk Try.prog (KLX [] [] [38] [] []) 100 3 185 (loopBody Try.prog 3 24) 0 false kbFs (kbAlts kbR0) kbInv kbMu ⟨_, _, kbSl, kbBl, fun x y => (x, y)⟩ := by
  intro x y hz
  obtain ⟨l, x, _, i, _⟩ := x
  obtain ⟨M, _⟩ := y
  refine (kbForm l x i M _ _).mpr ?_
  obtain ⟨q, rfl, hq, hl, hM, hc⟩ := hz
  rw [ifp_lt]
  simp only [natOf_nat]
  split
  · rename_i h
    have hql : q < l.length := by simpa using h
    have hcl := count_le (l := l.take q) l[q]
    rw [List.length_take] at hcl
    have e : wrapF .i64 (Int.add ((l.take q).count l[q] : Int) 1) = ((l.take q).count l[q] : Int) + 1 := by rw [wadd (by omega) (by omega)]
    refine ⟨idx_ok hql, _, nth_near0 hql, _, nth_near1 hql, _, _, left_look hM l[q], _, _, _, _, left_ent hM l[q], _, left_st l[q] _ (by omega), trivial, ⟨⟨_, _, left_look_ent hM l[q], rfl⟩, trivial⟩, trivial, l, Wk.refl _, x, Wk.refl _, _, rfl, Mp.ent_upd_clock _ _ _ _, (by first | exact trivial | exact rfl), ?_⟩
    refine ⟨⟨q + 1, by rw [wsucc (by omega)], hql, hl, left_upd hM _ _ (by rw [e, count_snoc hql, if_pos rfl]) (fun z hz => by rw [count_snoc hql, if_neg hz]; simp), ?_⟩, by rw [wsucc (by omega)]; show l.length - (q + 1) < l.length - q; omega, fun _ _ h => h, trivial⟩
    rw [← Mp.ent_upd_clock]
    have := M.ent_clock_le l[q] 0
    omega
  · rename_i h
    have hql : ¬ q < l.length := by simpa using h
    rw [take_all hql] at hM
    exact ⟨trivial, l, Wk.refl _, x, Wk.refl _, M, rfl, rfl, (by first | exact trivial | exact rfl), rfl, rfl, hl, hM, by omega⟩
theorem kbOk : LoopOk Try.prog 3 185 (.loop (loopBody Try.prog 3 24)) kbC := loop_ok kbMu mixed (KLX_ok (cc_nil)) rfl (steps_cons kbStep (steps_nil))

/-! The loop kc of wayfinder/wayfinderlaw04.RankKeeps. -/
abbrev kcZ := ((List Near) × (List Near) × Unit × Int × Unit) × ((Mp Near Int) × Unit)
noncomputable def kcSl : Tel ((List Near) × (List Near) × Unit × Int × Unit) := .cons 0 (.lst En) (.cons 14 (.lst En) (.cons 15 (.mapr 0) (.cons 17 (.int .i64) (.nil))))
noncomputable def kcBl : BTel ((Mp Near Int) × Unit) := .cons (.mp Kn Vi64) (.nil)
noncomputable def kcFs : List (LForm kcZ) := [⟨_, _, kcSl, kcBl, fun x y => (x, y)⟩]
noncomputable def kcAlts (R0 : kcZ → ((List Near) × (List Near) × Unit × Unit) → ((Mp Near Int) × Unit) → Prop) (R1 : kcZ → (Unit × Unit) → (Unit) → Prop) : List (Alt kcZ) := [⟨.exit 4, (List Near) × (List Near) × Unit × Unit, (Mp Near Int) × Unit, .cons 0 (.lst En) (.cons 14 (.lst En) (.cons 15 (.mapr 0) (.nil))), .cons (.mp Kn Vi64) (.nil), R0⟩, ⟨.ret, Unit × Unit, Unit, .cons 4 (.con (.bool false) rfl) (.nil), .nil, R1⟩]

theorem kcForm (l : List Near) (x : List Near) (i : Int) (M : Mp Near Int) (N : kcZ → Prop) (R0 : kcZ → ((List Near) × (List Near) × Unit × Unit) → ((Mp Near Int) × Unit) → Prop) (R1 : kcZ → (Unit × Unit) → (Unit) → Prop) : ((runW Try.prog (KLX [(15, lessK)] [] [38] [] []) 100).code none 3 185 (loopBody Try.prog 3 28) (mkT (kcSl.av id (l, (x, ((), (i, ())))))) [] (stL false (kcBl.obs id (M, ()))) (postL 0 kcFs (kcAlts R0 R1) ((l, (x, ((), (i, ())))), (M, ())) N)) =
  ( ifp (!leInt (Int.ofNat x.length) i) (idxOk i x.length ∧ ∃ (x_1 : Int), nth (((natOf i).mul (2 : Nat)).add (0 : Nat)) (List.flatMap En.f x) = some (AV.int
  IntKind.i64 x_1) ∧ ∃ (x_2 : Int), nth (((natOf i).mul (2 : Nat)).add (1 : Nat)) (List.flatMap En.f x) = some (AV.int IntKind.i64 x_2) ∧ ∃ (c : Bool), ∃ (x_3 :
  Int), lookIs (AV.agg [AV.int IntKind.i64 x_1, AV.int IntKind.i64 x_2]) (Mp.enc Kn Vi64 M) (AV.int IntKind.i64 (0 : Int)) (AV.int IntKind.i64 x_3) c ∧ ∃ (n :
  Nat), ∃ (es' : List AEntry), ∃ (c' : Nat), ∃ (x_4 : Int), entIs (AV.agg [AV.int IntKind.i64 x_1, AV.int IntKind.i64 x_2]) (Mp.enc Kn Vi64 M) M.clock (AV.int
  IntKind.i64 (0 : Int)) (AV.int IntKind.i64 x_4) n es' c' ∧ ∃ (es'_1 : List AEntry), stIs n (AV.int IntKind.i64 (wrapF IntKind.i64 (x_3.sub (1 : Int)))) es'
  es'_1 ∧ True ∧ ((∃ (c : Bool), ∃ (x : Int), lookIs (AV.agg [AV.int IntKind.i64 x_1, AV.int IntKind.i64 x_2]) es' (AV.int IntKind.i64 (0 : Int)) (AV.int
  IntKind.i64 x) c ∧ AV.int IntKind.i64 x = AV.int IntKind.i64 x_3) ∧ True) ∧ idxOk i x.length ∧ ∃ (x_5 : Int), nth (((natOf i).mul (2 : Nat)).add (0 : Nat))
  (List.flatMap En.f x) = some (AV.int IntKind.i64 x_5) ∧ ∃ (x_6 : Int), nth (((natOf i).mul (2 : Nat)).add (1 : Nat)) (List.flatMap En.f x) = some (AV.int
  IntKind.i64 x_6) ∧ ∃ (c : Bool), ∃ (x_7 : Int), lookIs (AV.agg [AV.int IntKind.i64 x_5, AV.int IntKind.i64 x_6]) es'_1 (AV.int IntKind.i64 (0 : Int)) (AV.int
  IntKind.i64 x_7) c ∧ ifp (!leInt (0 : Int) x_7) (True ∧ True ∧ True ∧ AV.bool false = AV.bool false ∧ true = true ∧ R1 ((l, x, (), i, ()), M, ()) ((), ()) ())
  (ifp (!leInt i (0 : Int)) (idxOk i x.length ∧ ∃ (x_8 : Int), nth (((natOf i).mul (2 : Nat)).add (0 : Nat)) (List.flatMap En.f x) = some (AV.int IntKind.i64
  x_8) ∧ ∃ (x_9 : Int), nth (((natOf i).mul (2 : Nat)).add (1 : Nat)) (List.flatMap En.f x) = some (AV.int IntKind.i64 x_9) ∧ idxOk (wrapF IntKind.i64 (i.sub (1
  : Int))) x.length ∧ ∃ (x_10 : Int), nth (((natOf (wrapF IntKind.i64 (i.sub (1 : Int)))).mul (2 : Nat)).add (0 : Nat)) (List.flatMap En.f x) = some (AV.int
  IntKind.i64 x_10) ∧ ∃ (x_11 : Int), nth (((natOf (wrapF IntKind.i64 (i.sub (1 : Int)))).mul (2 : Nat)).add (1 : Nat)) (List.flatMap En.f x) = some (AV.int
  IntKind.i64 x_11) ∧ ∃ (a : Near), AV.agg [AV.int IntKind.i64 x_8, AV.int IntKind.i64 x_9] = AV.agg [AV.int IntKind.i64 a.fst, AV.int IntKind.i64 a.snd.fst] ∧ ∃
  (a_1 : Near), AV.agg [AV.int IntKind.i64 x_10, AV.int IntKind.i64 x_11] = AV.agg [AV.int IntKind.i64 a_1.fst, AV.int IntKind.i64 a_1.snd.fst] ∧ lessPre (a,
  a_1, ()) ∧ ifp (lessV a a_1) (True ∧ True ∧ True ∧ True ∧ True ∧ AV.bool false = AV.bool false ∧ true = true ∧ R1 ((l, x, (), i, ()), M, ()) ((), ()) ()) (True
  ∧ True ∧ True ∧ True ∧ True ∧ ∃ (l_1 : List Near), Wk (AV.vs (List.flatMap En.f l) l.length l.length false none (2 : Nat)) (lst En l_1) ∧ ∃ (l : List Near), Wk
  (AV.vs (List.flatMap En.f x) x.length x.length false none (2 : Nat)) (lst En l) ∧ ∃ (m : Mp Near Int), es'_1 = Mp.enc Kn Vi64 m ∧ c' = m.clock ∧ true = true ∧
  N ((l_1, l, (), wrapF IntKind.i64 (i.add (1 : Int)), ()), m, ()))) (True ∧ True ∧ True ∧ ∃ (l_1 : List Near), Wk (AV.vs (List.flatMap En.f l) l.length l.length
  false none (2 : Nat)) (lst En l_1) ∧ ∃ (l : List Near), Wk (AV.vs (List.flatMap En.f x) x.length x.length false none (2 : Nat)) (lst En l) ∧ ∃ (m : Mp Near
  Int), es'_1 = Mp.enc Kn Vi64 m ∧ c' = m.clock ∧ true = true ∧ N ((l_1, l, (), wrapF IntKind.i64 (i.add (1 : Int)), ()), m, ())))) (True ∧ ∃ (l_1 : List Near),
  Wk (AV.vs (List.flatMap En.f l) l.length l.length false none (2 : Nat)) (lst En l_1) ∧ ∃ (l_2 : List Near), Wk (AV.vs (List.flatMap En.f x) x.length x.length
  false none (2 : Nat)) (lst En l_2) ∧ ∃ (m : Mp Near Int), Mp.enc Kn Vi64 M = Mp.enc Kn Vi64 m ∧ M.clock = m.clock ∧ true = true ∧ R0 ((l, x, (), i, ()), M, ())
  (l_1, l_2, (), ()) (m, ()))) := by kernel_rfl

def kcInv : kcZ → Prop := fun ((l, (x, ((), (i, ())))), (M, ())) => ∃ q : Nat, i = q ∧ q ≤ x.length ∧ x.length ≤ 150 ∧ l.length ≤ 150 ∧ (∃ k, x = topL k l) ∧ Left M (fun y => (l.count y : Int) - ((x.take q).count y : Int)) ∧ M.clock ≤ 150 + q
def kcMu : kcZ → Nat := fun ((l, (x, ((), (i, ())))), (M, ())) => x.length - i.toNat
def kcR0 : kcZ → ((List Near) × (List Near) × Unit × Unit) → ((Mp Near Int) × Unit) → Prop := fun ((l, (x, ((), (i, ())))), (M, ())) (l2, x2, _) (M2, _) => l2 = l ∧ x2 = x ∧ l.length ≤ 150 ∧ x.length ≤ 150 ∧ (∃ k, x = topL k l) ∧ Left M2 (fun y => (l.count y : Int) - (x.count y : Int))
def kcR1 : kcZ → (Unit × Unit) → (Unit) → Prop := fun ((l, (x, ((), (i, ())))), (M, ())) _ _ => False
noncomputable def kcC : LoopC := loopC 0 kcFs (kcAlts kcR0 kcR1) kcInv

theorem kcStep : stepsOk Try.prog (KLX [(15, lessK)] [] [38] [] []) 100 3 185 (loopBody Try.prog 3 28) 0 false kcFs (kcAlts kcR0 kcR1) kcInv kcMu ⟨_, _, kcSl, kcBl, fun x y => (x, y)⟩ := by
  intro x y hz
  obtain ⟨l, x, _, i, _⟩ := x
  obtain ⟨M, _⟩ := y
  refine (kcForm l x i M _ _ _).mpr ?_
  obtain ⟨q, rfl, hq, hxl, hl, ⟨k, hk⟩, hM, hc⟩ := hz
  rw [ifp_lt]
  split
  · rename_i h
    have hql : q < x.length := by simpa using h
    have c1 := count_le (l := l) x[q]
    have c2 := count_le (l := x.take (q + 1)) x[q]
    have c3 := count_snoc hql x[q]
    have c4 := count_top k l x[q]
    have c5 : (x.take (q + 1)).count x[q] ≤ x.count x[q] := (List.take_sublist _ _).count_le _
    rw [← hk] at c4
    rw [if_pos rfl] at c3
    rw [List.length_take] at c2
    have e : wrapF .i64 (Int.sub ((l.count x[q] : Int) - ((x.take q).count x[q] : Int)) 1) = (l.count x[q] : Int) - ((x.take (q + 1)).count x[q] : Int) := by rw [wsub (by omega) (by omega)]; omega
    have hM2 : Left ((M.ent x[q] 0).upd x[q] (wrapF .i64 (Int.sub ((l.count x[q] : Int) - ((x.take q).count x[q] : Int)) 1))) (fun y => (l.count y : Int) - ((x.take (q + 1)).count y : Int)) :=
      left_upd hM _ _ e.symm (fun z hz => by rw [count_snoc hql, if_neg hz]; simp)
    simp only [natOf_nat]
    refine ⟨idx_ok hql, _, nth_near0 hql, _, nth_near1 hql, _, _, left_look hM x[q], _, _, _, _, left_ent hM x[q], _, left_st x[q] _ (by omega), trivial, ⟨⟨_, _, left_look_ent hM x[q], rfl⟩, trivial⟩, idx_ok hql, _, nth_near0 hql, _, nth_near1 hql, _, _, left_look hM2 x[q], ?_⟩
    rw [ifp_lt, if_neg (by omega), ifp_lt]
    split
    · rename_i hq0
      have hq1 : q - 1 < x.length := by omega
      have eq1 : wrapF .i64 (Int.sub (q : Int) 1) = ((q - 1 : Nat) : Int) := by rw [wsub (by omega) (by omega)]; omega
      simp only [eq1, natOf_nat]
      refine ⟨idx_ok hql, _, nth_near0 hql, _, nth_near1 hql, idx_ok hq1, _, nth_near0 hq1, _, nth_near1 hq1, x[q], rfl, x[q - 1], rfl, trivial, ?_⟩
      have hs : lessV x[q] x[q - 1] = false := by
        have hS := topL_srt k l
        rw [← hk] at hS
        exact hS.get hq1 hql (by omega)
      rw [ifp_neg hs]
      refine ⟨trivial, trivial, trivial, trivial, trivial, l, Wk.refl _, x, Wk.refl _, _, rfl, Mp.ent_upd_clock _ _ _ _, (by first | exact trivial | exact rfl), ?_⟩
      refine ⟨⟨q + 1, by rw [wsucc (by omega)], hql, hxl, hl, ⟨k, hk⟩, hM2, ?_⟩, by rw [wsucc (by omega)]; show x.length - (q + 1) < x.length - q; omega, fun _ _ h => h, fun _ _ h => h, trivial⟩
      rw [← Mp.ent_upd_clock]
      have := M.ent_clock_le x[q] 0
      omega
    · refine ⟨trivial, trivial, trivial, l, Wk.refl _, x, Wk.refl _, _, rfl, Mp.ent_upd_clock _ _ _ _, (by first | exact trivial | exact rfl), ?_⟩
      refine ⟨⟨q + 1, by rw [wsucc (by omega)], hql, hxl, hl, ⟨k, hk⟩, hM2, ?_⟩, by rw [wsucc (by omega)]; show x.length - (q + 1) < x.length - q; omega, fun _ _ h => h, fun _ _ h => h, trivial⟩
      rw [← Mp.ent_upd_clock]
      have := M.ent_clock_le x[q] 0
      omega
  · rename_i h
    have hql : ¬ q < x.length := by simpa using h
    rw [take_all hql] at hM
    exact ⟨trivial, l, Wk.refl _, x, Wk.refl _, M, rfl, rfl, (by first | exact trivial | exact rfl), rfl, rfl, hl, hxl, ⟨k, hk⟩, hM⟩
theorem kcOk : LoopOk Try.prog 3 185 (.loop (loopBody Try.prog 3 28)) kcC := loop_ok kcMu mixed (KLX_ok (cc_cons lessCc (cc_nil))) rfl (steps_cons kcStep (steps_nil))

/-! The loop kd of wayfinder/wayfinderlaw04.RankKeeps. -/
abbrev kdZ := ((List Near) × (List Near) × Unit × Int × Unit) × ((Mp Near Int) × Unit)
noncomputable def kdSl : Tel ((List Near) × (List Near) × Unit × Int × Unit) := .cons 0 (.lst En) (.cons 14 (.lst En) (.cons 15 (.mapr 0) (.cons 18 (.int .i64) (.nil))))
noncomputable def kdBl : BTel ((Mp Near Int) × Unit) := .cons (.mp Kn Vi64) (.nil)
noncomputable def kdFs : List (LForm kdZ) := [⟨_, _, kdSl, kdBl, fun x y => (x, y)⟩]
noncomputable def kdAlts (R0 : kdZ → (Unit) → (Unit) → Prop) (R1 : kdZ → (Unit × Unit) → (Unit) → Prop) : List (Alt kdZ) := [⟨.exit 6, Unit, Unit, .nil, .nil, R0⟩, ⟨.ret, Unit × Unit, Unit, .cons 4 (.con (.bool false) rfl) (.nil), .nil, R1⟩]

theorem kdForm (l : List Near) (x : List Near) (i : Int) (M : Mp Near Int) (N : kdZ → Prop) (R0 : kdZ → (Unit) → (Unit) → Prop) (R1 : kdZ → (Unit × Unit) → (Unit) → Prop) : ((runW Try.prog (KLX [(15, lessK)] [] [38] [] []) 100).code none 3 185 (loopBody Try.prog 3 34) (mkT (kdSl.av id (l, (x, ((), (i, ())))))) [] (stL false (kdBl.obs id (M, ()))) (postL 0 kdFs (kdAlts R0 R1) ((l, (x, ((), (i, ())))), (M, ())) N)) =
  ( ifp (!leInt (Int.ofNat l.length) i) (ifp (!leInt (Int.ofNat x.length) (0 : Int)) (idxOk i l.length ∧ ∃ (x_1 : Int), nth (((natOf i).mul (2 : Nat)).add (0 :
  Nat)) (List.flatMap En.f l) = some (AV.int IntKind.i64 x_1) ∧ ∃ (x_2 : Int), nth (((natOf i).mul (2 : Nat)).add (1 : Nat)) (List.flatMap En.f l) = some (AV.int
  IntKind.i64 x_2) ∧ ∃ (c : Bool), ∃ (x_3 : Int), lookIs (AV.agg [AV.int IntKind.i64 x_1, AV.int IntKind.i64 x_2]) (Mp.enc Kn Vi64 M) (AV.int IntKind.i64 (0 :
  Int)) (AV.int IntKind.i64 x_3) c ∧ ifp (!leInt x_3 (0 : Int)) (idxOk i l.length ∧ ∃ (x_4 : Int), nth (((natOf i).mul (2 : Nat)).add (0 : Nat)) (List.flatMap
  En.f l) = some (AV.int IntKind.i64 x_4) ∧ ∃ (x_5 : Int), nth (((natOf i).mul (2 : Nat)).add (1 : Nat)) (List.flatMap En.f l) = some (AV.int IntKind.i64 x_5) ∧
  idxOk (wrapF IntKind.i64 ((Int.ofNat x.length).sub (1 : Int))) x.length ∧ ∃ (x_6 : Int), nth (((natOf (wrapF IntKind.i64 ((Int.ofNat x.length).sub (1 :
  Int)))).mul (2 : Nat)).add (0 : Nat)) (List.flatMap En.f x) = some (AV.int IntKind.i64 x_6) ∧ ∃ (x_7 : Int), nth (((natOf (wrapF IntKind.i64 ((Int.ofNat
  x.length).sub (1 : Int)))).mul (2 : Nat)).add (1 : Nat)) (List.flatMap En.f x) = some (AV.int IntKind.i64 x_7) ∧ ∃ (a : Near), AV.agg [AV.int IntKind.i64 x_4,
  AV.int IntKind.i64 x_5] = AV.agg [AV.int IntKind.i64 a.fst, AV.int IntKind.i64 a.snd.fst] ∧ ∃ (a_1 : Near), AV.agg [AV.int IntKind.i64 x_6, AV.int IntKind.i64
  x_7] = AV.agg [AV.int IntKind.i64 a_1.fst, AV.int IntKind.i64 a_1.snd.fst] ∧ lessPre (a, a_1, ()) ∧ ifp (lessV a a_1) (True ∧ True ∧ True ∧ True ∧ True ∧ True
  ∧ AV.bool false = AV.bool false ∧ true = true ∧ R1 ((l, x, (), i, ()), M, ()) ((), ()) ()) (True ∧ True ∧ True ∧ True ∧ True ∧ True ∧ ∃ (l_1 : List Near), Wk
  (AV.vs (List.flatMap En.f l) l.length l.length false none (2 : Nat)) (lst En l_1) ∧ ∃ (l : List Near), Wk (AV.vs (List.flatMap En.f x) x.length x.length false
  none (2 : Nat)) (lst En l) ∧ ∃ (m : Mp Near Int), Mp.enc Kn Vi64 M = Mp.enc Kn Vi64 m ∧ M.clock = m.clock ∧ true = true ∧ N ((l_1, l, (), wrapF IntKind.i64
  (i.add (1 : Int)), ()), m, ()))) (True ∧ True ∧ True ∧ ∃ (l_1 : List Near), Wk (AV.vs (List.flatMap En.f l) l.length l.length false none (2 : Nat)) (lst En
  l_1) ∧ ∃ (l : List Near), Wk (AV.vs (List.flatMap En.f x) x.length x.length false none (2 : Nat)) (lst En l) ∧ ∃ (m : Mp Near Int), Mp.enc Kn Vi64 M = Mp.enc
  Kn Vi64 m ∧ M.clock = m.clock ∧ true = true ∧ N ((l_1, l, (), wrapF IntKind.i64 (i.add (1 : Int)), ()), m, ()))) (True ∧ true = true ∧ R0 ((l, x, (), i, ()),
  M, ()) () ())) (True ∧ true = true ∧ R0 ((l, x, (), i, ()), M, ()) () ())) := by kernel_rfl

def kdInv : kdZ → Prop := fun ((l, (x, ((), (i, ())))), (M, ())) => ∃ q : Nat, i = q ∧ q ≤ l.length ∧ x.length ≤ 150 ∧ l.length ≤ 150 ∧ (∃ k, x = topL k l) ∧ Left M (fun y => (l.count y : Int) - (x.count y : Int))
def kdMu : kdZ → Nat := fun ((l, (x, ((), (i, ())))), (M, ())) => l.length - i.toNat
def kdR0 : kdZ → (Unit) → (Unit) → Prop := fun ((l, (x, ((), (i, ())))), (M, ())) _ _ => True
def kdR1 : kdZ → (Unit × Unit) → (Unit) → Prop := fun ((l, (x, ((), (i, ())))), (M, ())) _ _ => False
noncomputable def kdC : LoopC := loopC 0 kdFs (kdAlts kdR0 kdR1) kdInv

theorem kdStep : stepsOk Try.prog (KLX [(15, lessK)] [] [38] [] []) 100 3 185 (loopBody Try.prog 3 34) 0 false kdFs (kdAlts kdR0 kdR1) kdInv kdMu ⟨_, _, kdSl, kdBl, fun x y => (x, y)⟩ := by
  intro x y hz
  obtain ⟨l, x, _, i, _⟩ := x
  obtain ⟨M, _⟩ := y
  refine (kdForm l x i M _ _ _).mpr ?_
  obtain ⟨q, rfl, hq, hxl, hl, ⟨k, hk⟩, hM⟩ := hz
  rw [ifp_lt]
  split
  · rename_i h
    have hql : q < l.length := by simpa using h
    rw [ifp_lt]
    split
    · rename_i hx
      have hx0 : 0 < x.length := by simp only [Int.ofNat_eq_natCast] at hx; omega
      have hxp : x.length - 1 < x.length := by omega
      have ex : wrapF .i64 (Int.sub (Int.ofNat x.length) 1) = ((x.length - 1 : Nat) : Int) := by rw [w64 (by show _ ≤ (x.length : Int) - 1; omega) (by show (x.length : Int) - 1 < _; omega)]; show (x.length : Int) - 1 = _; omega
      simp only [ex, natOf_nat]
      refine ⟨idx_ok hql, _, nth_near0 hql, _, nth_near1 hql, _, _, left_look hM l[q], ?_⟩
      rw [ifp_lt]
      split
      · rename_i hpos
        have hlt : x.count l[q] < l.count l[q] := by omega
        refine ⟨idx_ok hql, _, nth_near0 hql, _, nth_near1 hql, idx_ok hxp, _, nth_near0 hxp, _, nth_near1 hxp, l[q], rfl, x[x.length - 1], rfl, trivial, ?_⟩
        have hs : lessV l[q] x[x.length - 1] = false := by
          have := top_out (k := k) (l := l) (y := l[q]) (by rw [← hk]; exact hlt) (by rw [← hk]; exact hx0)
          rw [← hk, last_get (p := x.length - 1) _ (by omega)] at this
          exact this
        rw [ifp_neg hs]
        refine ⟨trivial, trivial, trivial, trivial, trivial, trivial, l, Wk.refl _, x, Wk.refl _, M, rfl, rfl, (by first | exact trivial | exact rfl), ?_⟩
        exact ⟨⟨q + 1, by rw [wsucc (by omega)], hql, hxl, hl, ⟨k, hk⟩, hM⟩, by rw [wsucc (by omega)]; show l.length - (q + 1) < l.length - q; omega, fun _ _ h => h, fun _ _ h => h, trivial⟩
      · refine ⟨trivial, trivial, trivial, l, Wk.refl _, x, Wk.refl _, M, rfl, rfl, (by first | exact trivial | exact rfl), ?_⟩
        exact ⟨⟨q + 1, by rw [wsucc (by omega)], hql, hxl, hl, ⟨k, hk⟩, hM⟩, by rw [wsucc (by omega)]; show l.length - (q + 1) < l.length - q; omega, fun _ _ h => h, fun _ _ h => h, trivial⟩
    · exact ⟨trivial, (by first | exact trivial | exact rfl), trivial⟩
  · exact ⟨trivial, (by first | exact trivial | exact rfl), trivial⟩
theorem kdOk : LoopOk Try.prog 3 185 (.loop (loopBody Try.prog 3 34)) kdC := loop_ok kdMu mixed (KLX_ok (cc_cons lessCc (cc_nil))) rfl (steps_cons kdStep (steps_nil))

theorem pick_range {n m : Int} (h : 0 < m) : 0 ≤ pickV n m ∧ pickV n m < m := by
  rw [pickV, if_neg (by omega)]
  exact ⟨Int.emod_nonneg _ (by omega), Int.emod_lt_of_pos _ h⟩
theorem min_len {k : Int} (h : 0 ≤ k) {l : List Near} : eqInt (Int.ofNat (topL k l).length) (ifb (leInt k (Int.ofNat l.length)) k (Int.ofNat l.length)) = true := by
  rw [eqInt_iff, topL_len, ifb_eq, leInt_eq]
  by_cases c : k ≤ Int.ofNat l.length
  · rw [if_pos (by simpa using c)]; simp only [Int.ofNat_eq_natCast] at *; omega
  · rw [if_neg (by simpa using c)]; simp only [Int.ofNat_eq_natCast] at *; omega

/-! The law RankKeeps. -/
noncomputable def rankKeepsT : Tel ((List Near) × Int × Unit) := .cons 0 (.lst En) (.cons 1 (.int .i64) (.nil))
abbrev rankKeepsShapes : List Sh := [.slice (.fcons (.int .i64) (.fcons (.int .i64) .fnil)), .int .i64]

theorem rankKeepsFn (l : List Near) (n : Int) : (callW Try.prog (runW Try.prog (KLX [(10, lives04K), (11, pickK), (12, newK), (14, addK), (16, tlistK), (17, sameNK)] [(3, [(11, kaC), (24, kbC), (28, kcC), (34, kdC)])] [30, 38] [] []) 300) 3 (rankKeepsT.cells id (l, (n, ()))) (stB false) (fun v _ => yesQ v)) =
  ( True ∧ ifp (!leInt (Int.ofNat l.length) (150 : Int)) True (pickPre (n, (150 : Int), ()) ∧ true = true ∧ newPre ((pickV n (150 : Int), ()), ()) ∧ (∀ (c : Unit ×
  Int × Unit) (d : Unit), newR0 ((pickV n (150 : Int), ()), ()) c d → true = true ∧ newPre ((pickV n (150 : Int), ()), ()) ∧ (∀ (c_1 : Unit × Int × Unit) (d :
  Unit), newR0 ((pickV n (150 : Int), ()), ()) c_1 d → ifp (!eqInt c.2.1 (0 : Int)) False (ifp (!eqInt c_1.2.1 (0 : Int)) False (LoopOk Try.prog (3 : FuncId)
  (185 : Nat) (loopBody Try.prog (3 : FuncId) (11 : Nat)).loop kaC ∧ True ∧ True ∧ ((∃ (l_1 : List Near), Wk (AV.vs (List.flatMap En.f l) l.length l.length false
  none (2 : Nat)) (lst En l_1) ∧ False) ∨ ∃ (l_1 : List Near), Wk (AV.vs (List.flatMap En.f l) l.length l.length false none (2 : Nat)) (lst En l_1) ∧ False)))) ∧
  (∀ (c_1 : Unit × Int × Unit) (d : (Int × Unit × Unit) × Unit), newR1 ((pickV n (150 : Int), ()), ()) c_1 d → ifp (!eqInt c.2.1 (0 : Int)) False (ifp (!eqInt
  c_1.2.1 (0 : Int)) False (LoopOk Try.prog (3 : FuncId) (185 : Nat) (loopBody Try.prog (3 : FuncId) (11 : Nat)).loop kaC ∧ True ∧ True ∧ ((∃ (l_1 : List Near),
  Wk (AV.vs (List.flatMap En.f l) l.length l.length false none (2 : Nat)) (lst En l_1) ∧ False) ∨ ∃ (l_1 : List Near), Wk (AV.vs (List.flatMap En.f l) l.length
  l.length false none (2 : Nat)) (lst En l_1) ∧ False)))) ∧ True) ∧ (∀ (c : Unit × Int × Unit) (d : (Int × Unit × Unit) × Unit), newR1 ((pickV n (150 : Int),
  ()), ()) c d → true = true ∧ newPre ((pickV n (150 : Int), ()), ()) ∧ (∀ (c_1 : Unit × Int × Unit) (d : Unit), newR0 ((pickV n (150 : Int), ()), ()) c_1 d →
  ifp (!eqInt c.2.1 (0 : Int)) False (ifp (!eqInt c_1.2.1 (0 : Int)) False (LoopOk Try.prog (3 : FuncId) (185 : Nat) (loopBody Try.prog (3 : FuncId) (11 :
  Nat)).loop kaC ∧ True ∧ True ∧ ((∃ (l_1 : List Near), Wk (AV.vs (List.flatMap En.f l) l.length l.length false none (2 : Nat)) (lst En l_1) ∧ False) ∨ ∃ (l_1 :
  List Near), Wk (AV.vs (List.flatMap En.f l) l.length l.length false none (2 : Nat)) (lst En l_1) ∧ False)))) ∧ (∀ (c_1 : Unit × Int × Unit) (d_1 : (Int × Unit
  × Unit) × Unit), newR1 ((pickV n (150 : Int), ()), ()) c_1 d_1 → ifp (!eqInt c.2.1 (0 : Int)) False (ifp (!eqInt c_1.2.1 (0 : Int)) False (LoopOk Try.prog (3 :
  FuncId) (185 : Nat) (loopBody Try.prog (3 : FuncId) (11 : Nat)).loop kaC ∧ True ∧ True ∧ ((∃ (l_1 : List Near), Wk (AV.vs (List.flatMap En.f l) l.length
  l.length false none (2 : Nat)) (lst En l_1) ∧ False) ∨ ∃ (l_1 : List Near), Wk (AV.vs (List.flatMap En.f l) l.length l.length false none (2 : Nat)) (lst En
  l_1) ∧ true = true ∧ kaInv ((l_1, pickV n (150 : Int), (), (), (0 : Int), ()), (d.1.1, ((0 : Nat), (0 : Nat)), ()), (d_1.1.1, ((0 : Nat), (0 : Nat)), ()), [],
  [], ()) ∧ (∀ (c : List Near × Int × Unit × Unit × Unit) (d_2 : (Int × (Nat × Nat) × Unit) × (Int × (Nat × Nat) × Unit) × List Near × List Near × Unit), kaR0
  ((l_1, pickV n (150 : Int), (), (), (0 : Int), ()), (d.1.1, ((0 : Nat), (0 : Nat)), ()), (d_1.1.1, ((0 : Nat), (0 : Nat)), ()), [], [], ()) c d_2 → (∃ (l :
  List Near), List.flatMap En.f d_2.2.2.1 = List.flatMap En.f l ∧ true = true ∧ list1Pre (((), ()), (d_2.1.1, (d_2.1.2.1.fst, d_2.1.2.1.snd), ()), l, ()) ∧ (∀
  (c_2 : List Near × Unit) (d : (Int × (Nat × Nat) × Unit) × List Near × Unit), list1R0 (((), ()), (d_2.1.1, (d_2.1.2.1.fst, d_2.1.2.1.snd), ()), l, ()) c_2 d →
  (∃ (l : List Near), List.flatMap En.f d_2.2.2.2.1 = List.flatMap En.f l ∧ true = true ∧ list1Pre (((), ()), (d_2.2.1.1, (d_2.2.1.2.1.fst, d_2.2.1.2.1.snd),
  ()), l, ()) ∧ (∀ (c_3 : List Near × Unit) (d : (Int × (Nat × Nat) × Unit) × List Near × Unit), list1R0 (((), ()), (d_2.2.1.1, (d_2.2.1.2.1.fst,
  d_2.2.1.2.1.snd), ()), l, ()) c_3 d → ∃ (l : List Near), Wk (AV.vs (List.flatMap En.f c_2.1) c_2.1.length c_2.1.length false none (2 : Nat)) (lst En l) ∧ ∃
  (l_2 : List Near), Wk (AV.vs (List.flatMap En.f c_3.1) c_3.1.length c_3.1.length false none (2 : Nat)) (lst En l_2) ∧ sameNPre (l, l_2, ()) ∧ ifp (decide (l =
  l_2)) (ifp (!eqInt (Int.ofNat c_2.1.length) (ifb (leInt c.2.1 (Int.ofNat c.1.length)) c.2.1 (Int.ofNat c.1.length))) False (LoopOk Try.prog (3 : FuncId) (185 :
  Nat) (loopBody Try.prog (3 : FuncId) (24 : Nat)).loop kbC ∧ True ∧ True ∧ ∃ (l : List Near), Wk (AV.vs (List.flatMap En.f c.1) c.1.length c.1.length false none
  (2 : Nat)) (lst En l) ∧ ∃ (l_3 : List Near), Wk (AV.vs (List.flatMap En.f c_2.1) c_2.1.length c_2.1.length false none (2 : Nat)) (lst En l_3) ∧ ∃ (m : Mp Near
  Int), [] = Mp.enc Kn Vi64 m ∧ (0 : Nat) = m.clock ∧ true = true ∧ kbInv ((l, l_3, (), (0 : Int), ()), m, ()) ∧ (∀ (c : List Near × List Near × Unit × Unit) (d
  : Mp Near Int × Unit), kbR0 ((l, l_3, (), (0 : Int), ()), m, ()) c d → LoopOk Try.prog (3 : FuncId) (185 : Nat) (loopBody Try.prog (3 : FuncId) (28 :
  Nat)).loop kcC ∧ True ∧ True ∧ ∃ (l : List Near), Wk (AV.vs (List.flatMap En.f c.1) c.1.length c.1.length false none (2 : Nat)) (lst En l) ∧ ∃ (l_4 : List
  Near), Wk (AV.vs (List.flatMap En.f c.2.1) c.2.1.length c.2.1.length false none (2 : Nat)) (lst En l_4) ∧ ∃ (m : Mp Near Int), Mp.enc Kn Vi64 d.1 = Mp.enc Kn
  Vi64 m ∧ d.1.clock = m.clock ∧ true = true ∧ kcInv ((l, l_4, (), (0 : Int), ()), m, ()) ∧ (∀ (c : List Near × List Near × Unit × Unit) (d : Mp Near Int ×
  Unit), kcR0 ((l, l_4, (), (0 : Int), ()), m, ()) c d → LoopOk Try.prog (3 : FuncId) (185 : Nat) (loopBody Try.prog (3 : FuncId) (34 : Nat)).loop kdC ∧ True ∧
  True ∧ ∃ (l : List Near), Wk (AV.vs (List.flatMap En.f c.1) c.1.length c.1.length false none (2 : Nat)) (lst En l) ∧ ∃ (l_5 : List Near), Wk (AV.vs
  (List.flatMap En.f c.2.1) c.2.1.length c.2.1.length false none (2 : Nat)) (lst En l_5) ∧ ∃ (m : Mp Near Int), Mp.enc Kn Vi64 d.1 = Mp.enc Kn Vi64 m ∧ d.1.clock
  = m.clock ∧ true = true ∧ kdInv ((l, l_5, (), (0 : Int), ()), m, ()) ∧ (∀ (c d : Unit), kdR0 ((l, l_5, (), (0 : Int), ()), m, ()) c d → True) ∧ (∀ (c : Unit ×
  Unit) (d : Unit), kdR1 ((l, l_5, (), (0 : Int), ()), m, ()) c d → False) ∧ True) ∧ (∀ (c : Unit × Unit) (d : Unit), kcR1 ((l, l_4, (), (0 : Int), ()), m, ()) c
  d → False) ∧ True) ∧ True)) False) ∧ True) ∨ False) ∧ True) ∨ False) ∧ (∀ (c : List Near × Int × Unit × Unit × Unit) (d_2 : (Int × Unit × Unit) × (Int × Unit ×
  Unit) × Unit), kaR1 ((l_1, pickV n (150 : Int), (), (), (0 : Int), ()), (d.1.1, ((0 : Nat), (0 : Nat)), ()), (d_1.1.1, ((0 : Nat), (0 : Nat)), ()), [], [], ())
  c d_2 → False ∨ true = true ∧ list0Pre (((), ()), (d_2.1.1, (), ()), ()) ∧ (∀ (c_2 : List Near × Unit) (d : (Int × Unit × Unit) × Unit), list0R0 (((), ()),
  (d_2.1.1, (), ()), ()) c_2 d → False ∨ true = true ∧ list0Pre (((), ()), (d_2.2.1.1, (), ()), ()) ∧ (∀ (c_3 : List Near × Unit) (d : (Int × Unit × Unit) ×
  Unit), list0R0 (((), ()), (d_2.2.1.1, (), ()), ()) c_3 d → ∃ (l : List Near), Wk (AV.vs (List.flatMap En.f c_2.1) c_2.1.length c_2.1.length false none (2 :
  Nat)) (lst En l) ∧ ∃ (l_2 : List Near), Wk (AV.vs (List.flatMap En.f c_3.1) c_3.1.length c_3.1.length false none (2 : Nat)) (lst En l_2) ∧ sameNPre (l, l_2,
  ()) ∧ ifp (decide (l = l_2)) (ifp (!eqInt (Int.ofNat c_2.1.length) (ifb (leInt c.2.1 (Int.ofNat c.1.length)) c.2.1 (Int.ofNat c.1.length))) False (LoopOk
  Try.prog (3 : FuncId) (185 : Nat) (loopBody Try.prog (3 : FuncId) (24 : Nat)).loop kbC ∧ True ∧ True ∧ ∃ (l : List Near), Wk (AV.vs (List.flatMap En.f c.1)
  c.1.length c.1.length false none (2 : Nat)) (lst En l) ∧ ∃ (l_3 : List Near), Wk (AV.vs (List.flatMap En.f c_2.1) c_2.1.length c_2.1.length false none (2 :
  Nat)) (lst En l_3) ∧ ∃ (m : Mp Near Int), [] = Mp.enc Kn Vi64 m ∧ (0 : Nat) = m.clock ∧ true = true ∧ kbInv ((l, l_3, (), (0 : Int), ()), m, ()) ∧ (∀ (c : List
  Near × List Near × Unit × Unit) (d : Mp Near Int × Unit), kbR0 ((l, l_3, (), (0 : Int), ()), m, ()) c d → LoopOk Try.prog (3 : FuncId) (185 : Nat) (loopBody
  Try.prog (3 : FuncId) (28 : Nat)).loop kcC ∧ True ∧ True ∧ ∃ (l : List Near), Wk (AV.vs (List.flatMap En.f c.1) c.1.length c.1.length false none (2 : Nat))
  (lst En l) ∧ ∃ (l_4 : List Near), Wk (AV.vs (List.flatMap En.f c.2.1) c.2.1.length c.2.1.length false none (2 : Nat)) (lst En l_4) ∧ ∃ (m : Mp Near Int),
  Mp.enc Kn Vi64 d.1 = Mp.enc Kn Vi64 m ∧ d.1.clock = m.clock ∧ true = true ∧ kcInv ((l, l_4, (), (0 : Int), ()), m, ()) ∧ (∀ (c : List Near × List Near × Unit ×
  Unit) (d : Mp Near Int × Unit), kcR0 ((l, l_4, (), (0 : Int), ()), m, ()) c d → LoopOk Try.prog (3 : FuncId) (185 : Nat) (loopBody Try.prog (3 : FuncId) (34 :
  Nat)).loop kdC ∧ True ∧ True ∧ ∃ (l : List Near), Wk (AV.vs (List.flatMap En.f c.1) c.1.length c.1.length false none (2 : Nat)) (lst En l) ∧ ∃ (l_5 : List
  Near), Wk (AV.vs (List.flatMap En.f c.2.1) c.2.1.length c.2.1.length false none (2 : Nat)) (lst En l_5) ∧ ∃ (m : Mp Near Int), Mp.enc Kn Vi64 d.1 = Mp.enc Kn
  Vi64 m ∧ d.1.clock = m.clock ∧ true = true ∧ kdInv ((l, l_5, (), (0 : Int), ()), m, ()) ∧ (∀ (c d : Unit), kdR0 ((l, l_5, (), (0 : Int), ()), m, ()) c d →
  True) ∧ (∀ (c : Unit × Unit) (d : Unit), kdR1 ((l, l_5, (), (0 : Int), ()), m, ()) c d → False) ∧ True) ∧ (∀ (c : Unit × Unit) (d : Unit), kcR1 ((l, l_4, (),
  (0 : Int), ()), m, ()) c d → False) ∧ True) ∧ True)) False) ∧ True) ∧ True) ∧ (∀ (c : Unit × Unit) (d_2 : Unit), kaR2 ((l_1, pickV n (150 : Int), (), (), (0 :
  Int), ()), (d.1.1, ((0 : Nat), (0 : Nat)), ()), (d_1.1.1, ((0 : Nat), (0 : Nat)), ()), [], [], ()) c d_2 → False) ∧ True)))) ∧ True) ∧ True)) := by kernel_rfl

theorem rankKeepsHolds (l : List Near) (n : Int) (hl : Sh.plOk (.slice (.fcons (.int .i64) (.fcons (.int .i64) .fnil))) l) (hn : Sh.plOk (.int .i64) n) : callW Try.prog (runW Try.prog (KLX [(10, lives04K), (11, pickK), (12, newK), (14, addK), (16, tlistK), (17, sameNK)] [(3, [(11, kaC), (24, kbC), (28, kcC), (34, kdC)])] [30, 38] [] []) 300) 3 (rankKeepsT.cells id (l, (n, ()))) (stB false) (fun v _ => yesQ v) := by
  refine (rankKeepsFn l n).mpr ?_
  obtain ⟨n1, n2⟩ := wf_i64 hn
  refine ⟨trivial, ?_⟩
  rw [ifp_lt]
  split
  · trivial
  · rename_i hlen
    have hl : l.length ≤ 150 := by simp only [Int.ofNat_eq_natCast] at hlen; omega
    obtain ⟨p1, p2⟩ := pick_range (n := n) (m := 150) (by omega)
    generalize hK : pickV n 150 = K at p1 p2 ⊢
    have hol : (topL K l).length ≤ 150 := by rw [topL_len]; omega
    have hmin := min_len p1 (l := l)
    refine ⟨⟨n1, n2, by decide⟩, (by first | exact trivial | exact rfl), trivial, fun c d hr => ?_, fun c d hr => ?_, trivial⟩
    · exfalso
      obtain ⟨_, h⟩ := hr
      have h' : K < 0 ∨ 16777216 < K := h
      omega
    · refine ⟨(by first | exact trivial | exact rfl), trivial, fun c1 d1 hr1 => ?_, fun c1 d1 hr1 => ?_, trivial⟩
      · exfalso
        obtain ⟨_, h⟩ := hr1
        have h' : K < 0 ∨ 16777216 < K := h
        omega
      · obtain ⟨t, e, _⟩ := c
        obtain ⟨t1, e1, _⟩ := c1
        obtain ⟨⟨k2, _⟩, _⟩ := d
        obtain ⟨⟨k3, _⟩, _⟩ := d1
        obtain ⟨he, _, _, q1⟩ := hr
        obtain ⟨he1, _, _, q2⟩ := hr1
        obtain rfl : e = 0 := he
        obtain rfl : e1 = 0 := he1
        obtain rfl : K = k2 := q1.symm
        obtain rfl : K = k3 := q2.symm
        show ifp (!eqInt (0 : Int) 0) False (ifp (!eqInt (0 : Int) 0) False _)
        rw [ifp_neg (b := !eqInt (0 : Int) 0) rfl, ifp_neg (b := !eqInt (0 : Int) 0) rfl]
        have hnil : TopOk K [] [] := ⟨List.Perm.refl _, List.Pairwise.nil, fun j hj => by simp at hj, by simpa using p1⟩
        refine ⟨kaOk, trivial, trivial, Or.inr ⟨l, Wk.refl _, (by first | exact trivial | exact rfl), ⟨0, rfl, Nat.zero_le _, hl, rfl, rfl, p1, by show K ≤ 150; omega, rfl, rfl, by rw [List.take_zero, top_nil]; exact hnil, by rw [List.take_zero, top_nil]; exact hnil⟩, fun c d hr => ?_, fun c d hr => ?_, fun _ _ h => h, trivial⟩⟩
        · obtain ⟨l2, n2', _⟩ := c
          obtain ⟨⟨k4, h4, _⟩, ⟨k5, h5, _⟩, m, p, _⟩ := d
          obtain ⟨r1, r2, r3, r4, _, _, _, r5, r6, hT, hU⟩ := hr
          obtain rfl : l = l2 := r1.symm
          obtain rfl : K = n2' := r2.symm
          obtain rfl : K = k4 := r3.symm
          obtain rfl : K = k5 := r4.symm
          obtain rfl : h4 = (m.length, m.length) := r5
          obtain rfl : h5 = (p.length, p.length) := r6
          have hT' : TopOk K m (topL K l) := hT
          have hU' : TopOk K p (topL K l.reverse) := hU
          have hml := hT'.len
          have hpl := hU'.len
          have htl := topL_len K l.reverse
          rw [List.length_reverse] at htl
          refine Or.inl ⟨m, rfl, (by first | exact trivial | exact rfl), ⟨rfl, by show m.length ≤ 1000000; omega⟩, fun c2 d2 hr2 => Or.inl ⟨p, rfl, (by first | exact trivial | exact rfl), ⟨rfl, by show p.length ≤ 1000000; omega⟩, fun c3 d3 hr3 => ?_, trivial⟩, trivial⟩
          obtain ⟨o, _⟩ := c2
          obtain ⟨o3, _⟩ := c3
          have ho : o = topL K l := hr2.1.trans hT.list
          have ho3 : o3 = o := (hr3.1.trans hU.list).trans ((topL_perm K (List.reverse_perm l)).trans ho.symm)
          obtain rfl : o = o3 := ho3.symm
          rw [← ho] at hol hmin
          refine ⟨o, Wk.refl _, o, Wk.refl _, by show o.length ≤ 1000000; omega, ?_⟩
          rw [ifp_pos (by simp), ifp_neg (by rw [hmin]; rfl)]
          refine ⟨kbOk, trivial, trivial, l, Wk.refl _, o, Wk.refl _, Mp.empty, rfl, rfl, (by first | exact trivial | exact rfl), ⟨0, rfl, Nat.zero_le _, hl, fun y => by simp [Mp.empty_find], Nat.zero_le _⟩, fun c d hr => ?_, trivial⟩
          obtain ⟨l3, x3, _⟩ := c
          obtain ⟨M, _⟩ := d
          obtain ⟨h1, h2, _, hM, hc⟩ := hr
          obtain rfl : l = l3 := h1.symm
          obtain rfl : o = x3 := h2.symm
          refine ⟨kcOk, trivial, trivial, l, Wk.refl _, o, Wk.refl _, M, rfl, rfl, (by first | exact trivial | exact rfl), ⟨0, rfl, Nat.zero_le _, hol, hl, ⟨K, ho⟩, fun y => by rw [hM y]; simp, hc⟩, fun c d hr => ?_, fun _ _ h => h, trivial⟩
          obtain ⟨l4, x4, _⟩ := c
          obtain ⟨M2, _⟩ := d
          obtain ⟨h3, h4, _, _, _, hM2⟩ := hr
          obtain rfl : l = l4 := h3.symm
          obtain rfl : o = x4 := h4.symm
          exact ⟨kdOk, trivial, trivial, l, Wk.refl _, o, Wk.refl _, M2, rfl, rfl, (by first | exact trivial | exact rfl), ⟨0, rfl, Nat.zero_le _, hol, hl, ⟨K, ho⟩, hM2⟩, fun _ _ _ => trivial, fun _ _ h => h, trivial⟩
        · obtain ⟨l2, n2', _⟩ := c
          obtain ⟨⟨k4, _⟩, ⟨k5, _⟩, _⟩ := d
          obtain ⟨r1, r2, r3, r4, _, _, _, hT⟩ := hr
          obtain rfl : l = l2 := r1.symm
          obtain rfl : K = n2' := r2.symm
          obtain rfl : K = k4 := r3.symm
          obtain rfl : K = k5 := r4.symm
          refine Or.inr ⟨(by first | exact trivial | exact rfl), trivial, fun c2 d2 hr2 => Or.inr ⟨(by first | exact trivial | exact rfl), trivial, fun c3 d3 hr3 => ?_, trivial⟩, trivial⟩
          obtain ⟨o, _⟩ := c2
          obtain ⟨o3, _⟩ := c3
          have ho : o = topL K l := hr2.1.trans hT.symm
          have ho3 : o3 = o := hr3.1.trans hr2.1.symm
          obtain rfl : o = o3 := ho3.symm
          rw [← ho] at hol hmin
          refine ⟨o, Wk.refl _, o, Wk.refl _, by show o.length ≤ 1000000; omega, ?_⟩
          rw [ifp_pos (by simp), ifp_neg (by rw [hmin]; rfl)]
          refine ⟨kbOk, trivial, trivial, l, Wk.refl _, o, Wk.refl _, Mp.empty, rfl, rfl, (by first | exact trivial | exact rfl), ⟨0, rfl, Nat.zero_le _, hl, fun y => by simp [Mp.empty_find], Nat.zero_le _⟩, fun c d hr => ?_, trivial⟩
          obtain ⟨l3, x3, _⟩ := c
          obtain ⟨M, _⟩ := d
          obtain ⟨h1, h2, _, hM, hc⟩ := hr
          obtain rfl : l = l3 := h1.symm
          obtain rfl : o = x3 := h2.symm
          refine ⟨kcOk, trivial, trivial, l, Wk.refl _, o, Wk.refl _, M, rfl, rfl, (by first | exact trivial | exact rfl), ⟨0, rfl, Nat.zero_le _, hol, hl, ⟨K, ho⟩, fun y => by rw [hM y]; simp, hc⟩, fun c d hr => ?_, fun _ _ h => h, trivial⟩
          obtain ⟨l4, x4, _⟩ := c
          obtain ⟨M2, _⟩ := d
          obtain ⟨h3, h4, _, _, _, hM2⟩ := hr
          obtain rfl : l = l4 := h3.symm
          obtain rfl : o = x4 := h4.symm
          exact ⟨kdOk, trivial, trivial, l, Wk.refl _, o, Wk.refl _, M2, rfl, rfl, (by first | exact trivial | exact rfl), ⟨0, rfl, Nat.zero_le _, hol, hl, ⟨K, ho⟩, hM2⟩, fun _ _ _ => trivial, fun _ _ h => h, trivial⟩
theorem rankKeepsTrue (y : ShPls rankKeepsShapes) (hy : ShPlOks rankKeepsShapes y) : callW Try.prog (runW Try.prog (KLX [(10, lives04K), (11, pickK), (12, newK), (14, addK), (16, tlistK), (17, sameNK)] [(3, [(11, kaC), (24, kbC), (28, kcC), (34, kdC)])] [30, 38] [] []) 300) 3 (ShPlAvs rankKeepsShapes y) (stB false) (fun v _ => yesQ v) :=
  rankKeepsHolds y.1 y.2.1 hy.1 hy.2.1
theorem rankKeepsCalls {x : ShVs rankKeepsShapes} (hx : ShOks rankKeepsShapes x) {W : World} {args : Array Value} (h : VRs (frozenAll W) (ShAvs rankKeepsShapes x) args.toList) : Calls Try.prog 3 args W fun e w' => e = .returned (.bool true) ∧ Below W.heap.size W w' :=
  law_plain mixed (KLX_ok (cc_cons lives04Cc (cc_cons pickCc (cc_cons newCc (cc_cons addCc (cc_cons tlistCc (cc_cons sameNCc (cc_nil)))))))) rankKeepsTrue hx h

end Go.Proofs.Ytfcdpdejoogapaa
