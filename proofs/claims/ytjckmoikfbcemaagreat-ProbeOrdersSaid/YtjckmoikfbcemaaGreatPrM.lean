/- Forms and contracts, printed by gx.py. -/
import Derived.Test.YtjckmoikfbcemaaGreatRows
import Derived.Test.YtjckmoikfbcemaaGreatDvUse
import Derived.Test.YtjckmoikfbcemaaGreatDvArg
import Derived.ProofKit
import Derived.Test.YtjckmoikfbcemaaGreatBase
import Derived.Test.YtjckmoikfbcemaaGreatDvStab2
import Derived.Test.YtjckmoikfbcemaaGreatDvUse2
import Derived.Test.YtjckmoikfbcemaaGreatDvSort
import Derived.Test.YtjckmoikfbcemaaGreatOrdP
import Derived.Test.YtjckmoikfbcemaaGreatStP
import Derived.Test.YtjckmoikfbcemaaGreatStQ
import Derived.Test.YtjckmoikfbcemaaGreatDvClone
import Derived.Test.YtjckmoikfbcemaaGreatClone
import Derived.Test.YtjckmoikfbcemaaGreatPrO
import Derived.Test.YtjckmoikfbcemaaGreatPrF
namespace Go.Proofs.YtjckmoikfbcemaaGreat
open Go.Det Go.RowKit
set_option linter.unusedVariables false
set_option linter.unusedSimpArgs false
set_option maxRecDepth 100000
/-- How often each entry is left. -/
def Left (M : Mp Cd Int) (f : Cd → Int) : Prop := ∀ y, (M.find y).getD 0 = f y
theorem left_look {M : Mp Cd Int} {f : Cd → Int} (h : Left M f) (y : Cd) : lookIs (.agg [.int .i64 y.1, .int .i64 y.2.1, .int .i64 y.2.2.1, .int .i64 y.2.2.2.1]) (M.enc Kc Vi64) (.int .i64 0) (.int .i64 (f y)) (M.find y).isSome := by
  have h1 := M.look (KE := Kc) (VE := Vi64) y (.int .i64 0)
  have h2 := h y
  cases h3 : M.find y with
  | none => rw [h3] at h1 h2; simp at h2; rw [← h2]; exact h1
  | some v => rw [h3] at h1 h2; simp at h2; rw [← h2]; exact h1
theorem left_ent {M : Mp Cd Int} {f : Cd → Int} (h : Left M f) (y : Cd) : entIs (.agg [.int .i64 y.1, .int .i64 y.2.1, .int .i64 y.2.2.1, .int .i64 y.2.2.2.1]) (M.enc Kc Vi64) M.clock (.int .i64 0) (.int .i64 (f y)) ((M.ent y 0).bornAt y) ((M.ent y 0).enc Kc Vi64) (M.ent y 0).clock := by
  have h1 := M.ent_is (KE := Kc) (VE := Vi64) y 0
  rw [h y] at h1; exact h1
theorem left_look_ent {M : Mp Cd Int} {f : Cd → Int} (h : Left M f) (y : Cd) : lookIs (.agg [.int .i64 y.1, .int .i64 y.2.1, .int .i64 y.2.2.1, .int .i64 y.2.2.2.1]) ((M.ent y 0).enc Kc Vi64) (.int .i64 0) (.int .i64 (f y)) true := by
  have h1 := M.ent_find y 0
  rw [h y] at h1
  exact Mp.look_some (KE := Kc) (VE := Vi64) h1 (.int .i64 0)
theorem left_st {M : Mp Cd Int} (y : Cd) (v : Int) (hc : M.clock ≤ 1000) : stIs ((M.ent y 0).bornAt y) (.int .i64 v) ((M.ent y 0).enc Kc Vi64) (((M.ent y 0).upd y v).enc Kc Vi64) :=
  Mp.st_is (M.ent_find y 0) v (by have := M.ent_clock_le y 0; omega)
theorem left_upd {M : Mp Cd Int} {f g : Cd → Int} (h : Left M f) (y : Cd) (v : Int) (hv : g y = v) (hg : ∀ z, z ≠ y → g z = f z) : Left ((M.ent y 0).upd y v) g := by
  intro z
  rw [Mp.ent_upd_find]
  by_cases c : z = y
  · rw [if_pos c, c, hv]; rfl
  · rw [if_neg c, h z, hg z c]
theorem count_snoc {l : List Cd} {q : Nat} (h : q < l.length) (z : Cd) : ((l.take (q + 1)).count z : Int) = ((l.take q).count z : Int) + (if z = l[q] then 1 else 0) := by
  rw [← List.take_append_getElem h, List.count_append, List.count_singleton]
  by_cases c : z = l[q]
  · subst c; simp
  · rw [if_neg c, if_neg (by simpa using fun e => c e.symm)]; simp
theorem count_le {l : List Cd} (z : Cd) : l.count z ≤ l.length := List.count_le_length

/-! The loop pa of wayfinder/wayfinderlaw20.ProbeOrders. -/
abbrev paZ := ((List Cd) × Int × Int × (List Cd) × Unit × Int × Unit) × ((Mp Cd Int) × Unit)
noncomputable def paSl : Tel ((List Cd) × Int × Int × (List Cd) × Unit × Int × Unit) := .cons 0 (.lst Ec) (.cons 1 (.int .i64) (.cons 2 (.int .i64) (.cons 7 (.lst Ec) (.cons 8 (.mapr 0) (.cons 9 (.int .i64) (.nil))))))
noncomputable def paBl : BTel ((Mp Cd Int) × Unit) := .cons (.mp Kc Vi64) (.nil)
noncomputable def paFs : List (LForm paZ) := [⟨_, _, paSl, paBl, fun x y => (x, y)⟩]
noncomputable def paAlts (R0 : paZ → ((List Cd) × Int × Int × (List Cd) × Unit × Unit) → ((Mp Cd Int) × Unit) → Prop) : List (Alt paZ) := [⟨.exit 0, (List Cd) × Int × Int × (List Cd) × Unit × Unit, (Mp Cd Int) × Unit, .cons 0 (.lst Ec) (.cons 1 (.int .i64) (.cons 2 (.int .i64) (.cons 7 (.lst Ec) (.cons 8 (.mapr 0) (.nil))))), .cons (.mp Kc Vi64) (.nil), R0⟩]

theorem paForm (l : List Cd) (u : Int) (v : Int) (x : List Cd) (i : Int) (M : Mp Cd Int) (N : paZ → Prop) (R0 : paZ → ((List Cd) × Int × Int × (List Cd) × Unit × Unit) → ((Mp Cd Int) × Unit) → Prop) : ((runW Tryz.prog (KLX [] [] [27] [] []) 100).code none 3 118 (loopBody Tryz.prog 3 10) (mkT (paSl.av id (l, (u, (v, (x, ((), (i, ())))))))) [] (stL false (paBl.obs id (M, ()))) (postL 0 paFs (paAlts R0) ((l, (u, (v, (x, ((), (i, ())))))), (M, ())) N)) =
  ( ifp (!leInt (Int.ofNat l.length) i) (idxOk i l.length ∧ ∃ (x_1 : Int), nth (((natOf i).mul (4 : Nat)).add (0 : Nat)) (List.flatMap Ec.f l) = some (AV.int
  IntKind.i64 x_1) ∧ ∃ (x_2 : Int), nth (((natOf i).mul (4 : Nat)).add (1 : Nat)) (List.flatMap Ec.f l) = some (AV.int IntKind.i64 x_2) ∧ ∃ (x_3 : Int), nth
  (((natOf i).mul (4 : Nat)).add (2 : Nat)) (List.flatMap Ec.f l) = some (AV.int IntKind.i64 x_3) ∧ ∃ (x_4 : Int), nth (((natOf i).mul (4 : Nat)).add (3 : Nat))
  (List.flatMap Ec.f l) = some (AV.int IntKind.i64 x_4) ∧ ∃ (c : Bool), ∃ (x_5 : Int), lookIs (AV.agg [AV.int IntKind.i64 x_1, AV.int IntKind.i64 x_2, AV.int
  IntKind.i64 x_3, AV.int IntKind.i64 x_4]) (Mp.enc Kc Vi64 M) (AV.int IntKind.i64 (0 : Int)) (AV.int IntKind.i64 x_5) c ∧ ∃ (n : Nat), ∃ (es' : List AEntry), ∃
  (c' : Nat), ∃ (x_6 : Int), entIs (AV.agg [AV.int IntKind.i64 x_1, AV.int IntKind.i64 x_2, AV.int IntKind.i64 x_3, AV.int IntKind.i64 x_4]) (Mp.enc Kc Vi64 M)
  M.clock (AV.int IntKind.i64 (0 : Int)) (AV.int IntKind.i64 x_6) n es' c' ∧ ∃ (es'_1 : List AEntry), stIs n (AV.int IntKind.i64 (wrapF IntKind.i64 (x_5.add (1 :
  Int)))) es' es'_1 ∧ True ∧ ((∃ (c : Bool), ∃ (x : Int), lookIs (AV.agg [AV.int IntKind.i64 x_1, AV.int IntKind.i64 x_2, AV.int IntKind.i64 x_3, AV.int
  IntKind.i64 x_4]) es' (AV.int IntKind.i64 (0 : Int)) (AV.int IntKind.i64 x) c ∧ AV.int IntKind.i64 x = AV.int IntKind.i64 x_5) ∧ True) ∧ True ∧ ∃ (l_1 : List
  Cd), Wk (AV.vs (List.flatMap Ec.f l) l.length l.length false none (4 : Nat)) (lst Ec l_1) ∧ ∃ (l : List Cd), Wk (AV.vs (List.flatMap Ec.f x) x.length x.length
  false none (4 : Nat)) (lst Ec l) ∧ ∃ (m : Mp Cd Int), es'_1 = Mp.enc Kc Vi64 m ∧ c' = m.clock ∧ true = true ∧ N ((l_1, u, v, l, (), wrapF IntKind.i64 (i.add (1
  : Int)), ()), m, ())) (True ∧ ∃ (l_1 : List Cd), Wk (AV.vs (List.flatMap Ec.f l) l.length l.length false none (4 : Nat)) (lst Ec l_1) ∧ ∃ (l_2 : List Cd), Wk
  (AV.vs (List.flatMap Ec.f x) x.length x.length false none (4 : Nat)) (lst Ec l_2) ∧ ∃ (m : Mp Cd Int), Mp.enc Kc Vi64 M = Mp.enc Kc Vi64 m ∧ M.clock = m.clock
  ∧ true = true ∧ R0 ((l, u, v, x, (), i, ()), M, ()) (l_1, u, v, l_2, (), ()) (m, ()))) := by kernel_rfl

def paInv : paZ → Prop := fun ((l, (u, (v, (x, ((), (i, ())))))), (M, ())) => ∃ q : Nat, i = q ∧ q ≤ l.length ∧ l.length ≤ 150 ∧ Left M (fun y => ((l.take q).count y : Int)) ∧ M.clock ≤ q
def paMu : paZ → Nat := fun ((l, (u, (v, (x, ((), (i, ())))))), (M, ())) => l.length - i.toNat
def paR0 : paZ → ((List Cd) × Int × Int × (List Cd) × Unit × Unit) → ((Mp Cd Int) × Unit) → Prop := fun ((l, (u, (v, (x, ((), (i, ())))))), (M, ())) (l2, u2, v2, x2, _) (M2, _) => l2 = l ∧ u2 = u ∧ v2 = v ∧ x2 = x ∧ l.length ≤ 150 ∧ Left M2 (fun y => (l.count y : Int)) ∧ M2.clock ≤ 150
noncomputable def paC : LoopC := loopC 0 paFs (paAlts paR0) paInv

theorem paStep : stepsOk Tryz.prog (KLX [] [] [27] [] []) 100 3 118 (loopBody Tryz.prog 3 10) 0 false paFs (paAlts paR0) paInv paMu ⟨_, _, paSl, paBl, fun x y => (x, y)⟩ := by
  intro x y hz
  obtain ⟨l, u, v, x, _, i, _⟩ := x
  obtain ⟨M, _⟩ := y
  refine (paForm l u v x i M _ _).mpr ?_
  obtain ⟨q, rfl, hq, hl, hM, hc⟩ := hz
  rw [ifp_lt]
  simp only [natOf_nat]
  split
  · rename_i h
    have hql : q < l.length := by simpa using h
    have hcl := count_le (l := l.take q) l[q]
    rw [List.length_take] at hcl
    have e : wrapF .i64 (Int.add ((l.take q).count l[q] : Int) 1) = ((l.take q).count l[q] : Int) + 1 := by rw [wadd (by omega) (by omega)]
    refine ⟨idx_ok hql, _, nth_cd0 hql, _, nth_cd1 hql, _, nth_cd2 hql, _, nth_cd3 hql, _, _, left_look hM l[q], _, _, _, _, left_ent hM l[q], _, left_st l[q] _ (by omega), trivial, ⟨⟨_, _, left_look_ent hM l[q], rfl⟩, trivial⟩, trivial, l, Wk.refl _, x, Wk.refl _, _, rfl, Mp.ent_upd_clock _ _ _ _, (by first | exact trivial | exact rfl), ?_⟩
    refine ⟨⟨q + 1, by rw [wsucc (by omega)], hql, hl, left_upd hM _ _ (by rw [e, count_snoc hql, if_pos rfl]) (fun z hz => by rw [count_snoc hql, if_neg hz]; simp), ?_⟩, by rw [wsucc (by omega)]; show l.length - (q + 1) < l.length - q; omega, fun _ _ h => h, trivial⟩
    rw [← Mp.ent_upd_clock]
    have := M.ent_clock_le l[q] 0
    omega
  · rename_i h
    have hql : ¬ q < l.length := by simpa using h
    rw [take_all hql] at hM
    exact ⟨trivial, l, Wk.refl _, x, Wk.refl _, M, rfl, rfl, (by first | exact trivial | exact rfl), rfl, rfl, rfl, rfl, hl, hM, by omega⟩
theorem paOk : LoopOk Tryz.prog 3 118 (.loop (loopBody Tryz.prog 3 10)) (paC) := loop_ok paMu  mixed (KLX_ok (cc_nil)) rfl (steps_cons paStep (steps_nil))

/-! The loop pb of wayfinder/wayfinderlaw20.ProbeOrders. -/
abbrev pbZ := ((List Cd) × Int × Int × (List Cd) × Unit × Int × Unit) × ((Mp Cd Int) × Unit)
noncomputable def pbSl : Tel ((List Cd) × Int × Int × (List Cd) × Unit × Int × Unit) := .cons 0 (.lst Ec) (.cons 1 (.int .i64) (.cons 2 (.int .i64) (.cons 7 (.lst Ec) (.cons 8 (.mapr 0) (.cons 10 (.int .i64) (.nil))))))
noncomputable def pbBl : BTel ((Mp Cd Int) × Unit) := .cons (.mp Kc Vi64) (.nil)
noncomputable def pbFs : List (LForm pbZ) := [⟨_, _, pbSl, pbBl, fun x y => (x, y)⟩]
noncomputable def pbAlts (R0 : pbZ → ((List Cd) × Int × Int × (List Cd) × Unit) → (Unit) → Prop) (R1 : pbZ → (Unit × Unit) → (Unit) → Prop) : List (Alt pbZ) := [⟨.exit 2, (List Cd) × Int × Int × (List Cd) × Unit, Unit, .cons 0 (.lst Ec) (.cons 1 (.int .i64) (.cons 2 (.int .i64) (.cons 7 (.lst Ec) (.nil)))), .nil, R0⟩, ⟨.ret, Unit × Unit, Unit, .cons 6 (.con (.bool false) rfl) (.nil), .nil, R1⟩]

theorem pbForm (l : List Cd) (u : Int) (v : Int) (x : List Cd) (i : Int) (M : Mp Cd Int) (N : pbZ → Prop) (R0 : pbZ → ((List Cd) × Int × Int × (List Cd) × Unit) → (Unit) → Prop) (R1 : pbZ → (Unit × Unit) → (Unit) → Prop) : ((runW Tryz.prog (KLX [(10, lessCK)] [] [27] [] []) 100).code none 3 118 (loopBody Tryz.prog 3 14) (mkT (pbSl.av id (l, (u, (v, (x, ((), (i, ())))))))) [] (stL false (pbBl.obs id (M, ()))) (postL 0 pbFs (pbAlts R0 R1) ((l, (u, (v, (x, ((), (i, ())))))), (M, ())) N)) =
  ( ifp (!leInt (Int.ofNat x.length) i) (idxOk i x.length ∧ ∃ (x_1 : Int), nth (((natOf i).mul (4 : Nat)).add (0 : Nat)) (List.flatMap Ec.f x) = some (AV.int
  IntKind.i64 x_1) ∧ ∃ (x_2 : Int), nth (((natOf i).mul (4 : Nat)).add (1 : Nat)) (List.flatMap Ec.f x) = some (AV.int IntKind.i64 x_2) ∧ ∃ (x_3 : Int), nth
  (((natOf i).mul (4 : Nat)).add (2 : Nat)) (List.flatMap Ec.f x) = some (AV.int IntKind.i64 x_3) ∧ ∃ (x_4 : Int), nth (((natOf i).mul (4 : Nat)).add (3 : Nat))
  (List.flatMap Ec.f x) = some (AV.int IntKind.i64 x_4) ∧ ∃ (c : Bool), ∃ (x_5 : Int), lookIs (AV.agg [AV.int IntKind.i64 x_1, AV.int IntKind.i64 x_2, AV.int
  IntKind.i64 x_3, AV.int IntKind.i64 x_4]) (Mp.enc Kc Vi64 M) (AV.int IntKind.i64 (0 : Int)) (AV.int IntKind.i64 x_5) c ∧ ∃ (n : Nat), ∃ (es' : List AEntry), ∃
  (c' : Nat), ∃ (x_6 : Int), entIs (AV.agg [AV.int IntKind.i64 x_1, AV.int IntKind.i64 x_2, AV.int IntKind.i64 x_3, AV.int IntKind.i64 x_4]) (Mp.enc Kc Vi64 M)
  M.clock (AV.int IntKind.i64 (0 : Int)) (AV.int IntKind.i64 x_6) n es' c' ∧ ∃ (es'_1 : List AEntry), stIs n (AV.int IntKind.i64 (wrapF IntKind.i64 (x_5.sub (1 :
  Int)))) es' es'_1 ∧ True ∧ ((∃ (c : Bool), ∃ (x : Int), lookIs (AV.agg [AV.int IntKind.i64 x_1, AV.int IntKind.i64 x_2, AV.int IntKind.i64 x_3, AV.int
  IntKind.i64 x_4]) es' (AV.int IntKind.i64 (0 : Int)) (AV.int IntKind.i64 x) c ∧ AV.int IntKind.i64 x = AV.int IntKind.i64 x_5) ∧ True) ∧ idxOk i x.length ∧ ∃
  (x_7 : Int), nth (((natOf i).mul (4 : Nat)).add (0 : Nat)) (List.flatMap Ec.f x) = some (AV.int IntKind.i64 x_7) ∧ ∃ (x_8 : Int), nth (((natOf i).mul (4 :
  Nat)).add (1 : Nat)) (List.flatMap Ec.f x) = some (AV.int IntKind.i64 x_8) ∧ ∃ (x_9 : Int), nth (((natOf i).mul (4 : Nat)).add (2 : Nat)) (List.flatMap Ec.f x)
  = some (AV.int IntKind.i64 x_9) ∧ ∃ (x_10 : Int), nth (((natOf i).mul (4 : Nat)).add (3 : Nat)) (List.flatMap Ec.f x) = some (AV.int IntKind.i64 x_10) ∧ ∃ (c :
  Bool), ∃ (x_11 : Int), lookIs (AV.agg [AV.int IntKind.i64 x_7, AV.int IntKind.i64 x_8, AV.int IntKind.i64 x_9, AV.int IntKind.i64 x_10]) es'_1 (AV.int
  IntKind.i64 (0 : Int)) (AV.int IntKind.i64 x_11) c ∧ ifp (!leInt (0 : Int) x_11) (True ∧ True ∧ True ∧ AV.bool false = AV.bool false ∧ true = true ∧ R1 ((l, u,
  v, x, (), i, ()), M, ()) ((), ()) ()) (ifp (!leInt i (0 : Int)) (idxOk i x.length ∧ ∃ (x_12 : Int), nth (((natOf i).mul (4 : Nat)).add (0 : Nat)) (List.flatMap
  Ec.f x) = some (AV.int IntKind.i64 x_12) ∧ ∃ (x_13 : Int), nth (((natOf i).mul (4 : Nat)).add (1 : Nat)) (List.flatMap Ec.f x) = some (AV.int IntKind.i64 x_13)
  ∧ ∃ (x_14 : Int), nth (((natOf i).mul (4 : Nat)).add (2 : Nat)) (List.flatMap Ec.f x) = some (AV.int IntKind.i64 x_14) ∧ ∃ (x_15 : Int), nth (((natOf i).mul (4
  : Nat)).add (3 : Nat)) (List.flatMap Ec.f x) = some (AV.int IntKind.i64 x_15) ∧ idxOk (wrapF IntKind.i64 (i.sub (1 : Int))) x.length ∧ ∃ (x_16 : Int), nth
  (((natOf (wrapF IntKind.i64 (i.sub (1 : Int)))).mul (4 : Nat)).add (0 : Nat)) (List.flatMap Ec.f x) = some (AV.int IntKind.i64 x_16) ∧ ∃ (x_17 : Int), nth
  (((natOf (wrapF IntKind.i64 (i.sub (1 : Int)))).mul (4 : Nat)).add (1 : Nat)) (List.flatMap Ec.f x) = some (AV.int IntKind.i64 x_17) ∧ ∃ (x_18 : Int), nth
  (((natOf (wrapF IntKind.i64 (i.sub (1 : Int)))).mul (4 : Nat)).add (2 : Nat)) (List.flatMap Ec.f x) = some (AV.int IntKind.i64 x_18) ∧ ∃ (x_19 : Int), nth
  (((natOf (wrapF IntKind.i64 (i.sub (1 : Int)))).mul (4 : Nat)).add (3 : Nat)) (List.flatMap Ec.f x) = some (AV.int IntKind.i64 x_19) ∧ ∃ (a : Cd), AV.agg
  [AV.int IntKind.i64 x_12, AV.int IntKind.i64 x_13, AV.int IntKind.i64 x_14, AV.int IntKind.i64 x_15] = AV.agg [AV.int IntKind.i64 a.fst, AV.int IntKind.i64
  a.snd.fst, AV.int IntKind.i64 a.snd.snd.fst, AV.int IntKind.i64 a.snd.snd.snd.fst] ∧ ∃ (a_1 : Cd), AV.agg [AV.int IntKind.i64 x_16, AV.int IntKind.i64 x_17,
  AV.int IntKind.i64 x_18, AV.int IntKind.i64 x_19] = AV.agg [AV.int IntKind.i64 a_1.fst, AV.int IntKind.i64 a_1.snd.fst, AV.int IntKind.i64 a_1.snd.snd.fst,
  AV.int IntKind.i64 a_1.snd.snd.snd.fst] ∧ lessCPre (a, a_1, ()) ∧ ifp (ltC a a_1) (True ∧ True ∧ True ∧ True ∧ True ∧ AV.bool false = AV.bool false ∧ true =
  true ∧ R1 ((l, u, v, x, (), i, ()), M, ()) ((), ()) ()) (True ∧ True ∧ True ∧ True ∧ True ∧ ∃ (l_1 : List Cd), Wk (AV.vs (List.flatMap Ec.f l) l.length
  l.length false none (4 : Nat)) (lst Ec l_1) ∧ ∃ (l : List Cd), Wk (AV.vs (List.flatMap Ec.f x) x.length x.length false none (4 : Nat)) (lst Ec l) ∧ ∃ (m : Mp
  Cd Int), es'_1 = Mp.enc Kc Vi64 m ∧ c' = m.clock ∧ true = true ∧ N ((l_1, u, v, l, (), wrapF IntKind.i64 (i.add (1 : Int)), ()), m, ()))) (True ∧ True ∧ True ∧
  ∃ (l_1 : List Cd), Wk (AV.vs (List.flatMap Ec.f l) l.length l.length false none (4 : Nat)) (lst Ec l_1) ∧ ∃ (l : List Cd), Wk (AV.vs (List.flatMap Ec.f x)
  x.length x.length false none (4 : Nat)) (lst Ec l) ∧ ∃ (m : Mp Cd Int), es'_1 = Mp.enc Kc Vi64 m ∧ c' = m.clock ∧ true = true ∧ N ((l_1, u, v, l, (), wrapF
  IntKind.i64 (i.add (1 : Int)), ()), m, ())))) (True ∧ ∃ (l_1 : List Cd), Wk (AV.vs (List.flatMap Ec.f l) l.length l.length false none (4 : Nat)) (lst Ec l_1) ∧
  ∃ (l_2 : List Cd), Wk (AV.vs (List.flatMap Ec.f x) x.length x.length false none (4 : Nat)) (lst Ec l_2) ∧ true = true ∧ R0 ((l, u, v, x, (), i, ()), M, ())
  (l_1, u, v, l_2, ()) ())) := by kernel_rfl

def pbInv : pbZ → Prop := fun ((l, (u, (v, (x, ((), (i, ())))))), (M, ())) => ∃ q : Nat, i = q ∧ q ≤ x.length ∧ x.length ≤ 150 ∧ l.length ≤ 150 ∧ (x = sortC l) ∧ Left M (fun y => (l.count y : Int) - ((x.take q).count y : Int)) ∧ M.clock ≤ 150 + q
def pbMu : pbZ → Nat := fun ((l, (u, (v, (x, ((), (i, ())))))), (M, ())) => x.length - i.toNat
def pbR0 : pbZ → ((List Cd) × Int × Int × (List Cd) × Unit) → (Unit) → Prop := fun ((l, (u, (v, (x, ((), (i, ())))))), (M, ())) (l2, u2, v2, x2, _) _ => l2 = l ∧ u2 = u ∧ v2 = v ∧ x2 = x
def pbR1 : pbZ → (Unit × Unit) → (Unit) → Prop := fun ((l, (u, (v, (x, ((), (i, ())))))), (M, ())) _ _ => False
noncomputable def pbC : LoopC := loopC 0 pbFs (pbAlts pbR0 pbR1) pbInv

theorem pbStep : stepsOk Tryz.prog (KLX [(10, lessCK)] [] [27] [] []) 100 3 118 (loopBody Tryz.prog 3 14) 0 false pbFs (pbAlts pbR0 pbR1) pbInv pbMu ⟨_, _, pbSl, pbBl, fun x y => (x, y)⟩ := by
  intro x y hz
  obtain ⟨l, u, v, x, _, i, _⟩ := x
  obtain ⟨M, _⟩ := y
  refine (pbForm l u v x i M _ _ _).mpr ?_
  obtain ⟨q, rfl, hq, hxl, hl, hk, hM, hc⟩ := hz
  rw [ifp_lt]
  split
  · rename_i h
    have hql : q < x.length := by simpa using h
    have c1 := count_le (l := l) x[q]
    have c2 := count_le (l := x.take (q + 1)) x[q]
    have c3 := count_snoc hql x[q]
    have c4 : x.count x[q] ≤ l.count x[q] := by
      have := (Go.Det.Stab.sort_perm (lt := ltC) l).count_eq x[q]
      have e : ∀ y, x.count y = (Go.Det.Stab.sort ltC l).count y := fun y => by rw [hk]; rfl
      have := e x[q]
      omega
    have c5 : (x.take (q + 1)).count x[q] ≤ x.count x[q] := (List.take_sublist _ _).count_le _
    rw [if_pos rfl] at c3
    rw [List.length_take] at c2
    have e : wrapF .i64 (Int.sub ((l.count x[q] : Int) - ((x.take q).count x[q] : Int)) 1) = (l.count x[q] : Int) - ((x.take (q + 1)).count x[q] : Int) := by rw [wsub (by omega) (by omega)]; omega
    have hM2 : Left ((M.ent x[q] 0).upd x[q] (wrapF .i64 (Int.sub ((l.count x[q] : Int) - ((x.take q).count x[q] : Int)) 1))) (fun y => (l.count y : Int) - ((x.take (q + 1)).count y : Int)) :=
      left_upd hM _ _ e.symm (fun z hz => by rw [count_snoc hql, if_neg hz]; simp)
    simp only [natOf_nat]
    refine ⟨idx_ok hql, _, nth_cd0 hql, _, nth_cd1 hql, _, nth_cd2 hql, _, nth_cd3 hql, _, _, left_look hM x[q], _, _, _, _, left_ent hM x[q], _, left_st x[q] _ (by omega), trivial, ⟨⟨_, _, left_look_ent hM x[q], rfl⟩, trivial⟩, idx_ok hql, _, nth_cd0 hql, _, nth_cd1 hql, _, nth_cd2 hql, _, nth_cd3 hql, _, _, left_look hM2 x[q], ?_⟩
    rw [ifp_lt, if_neg (by omega), ifp_lt]
    split
    · rename_i hq0
      have hq1 : q - 1 < x.length := by omega
      have eq1 : wrapF .i64 (Int.sub (q : Int) 1) = ((q - 1 : Nat) : Int) := by rw [wsub (by omega) (by omega)]; omega
      simp only [eq1, natOf_nat]
      refine ⟨idx_ok hql, _, nth_cd0 hql, _, nth_cd1 hql, _, nth_cd2 hql, _, nth_cd3 hql, idx_ok hq1, _, nth_cd0 hq1, _, nth_cd1 hq1, _, nth_cd2 hq1, _, nth_cd3 hq1, x[q], rfl, x[q - 1], rfl, trivial, ?_⟩
      have hs : ltC x[q] x[q - 1] = false := by
        have hS : Go.Det.Stab.Srt ltC x := by rw [hk]; exact Go.Det.Stab.sort_srt weakC l
        exact hS.get weakC hq1 hql (by omega)
      rw [ifp_neg hs]
      refine ⟨trivial, trivial, trivial, trivial, trivial, l, Wk.refl _, x, Wk.refl _, _, rfl, Mp.ent_upd_clock _ _ _ _, (by first | exact trivial | exact rfl), ?_⟩
      refine ⟨⟨q + 1, by rw [wsucc (by omega)], hql, hxl, hl, hk, hM2, ?_⟩, by rw [wsucc (by omega)]; show x.length - (q + 1) < x.length - q; omega, fun _ _ h => h, fun _ _ h => h, trivial⟩
      rw [← Mp.ent_upd_clock]
      have := M.ent_clock_le x[q] 0
      omega
    · refine ⟨trivial, trivial, trivial, l, Wk.refl _, x, Wk.refl _, _, rfl, Mp.ent_upd_clock _ _ _ _, (by first | exact trivial | exact rfl), ?_⟩
      refine ⟨⟨q + 1, by rw [wsucc (by omega)], hql, hxl, hl, hk, hM2, ?_⟩, by rw [wsucc (by omega)]; show x.length - (q + 1) < x.length - q; omega, fun _ _ h => h, fun _ _ h => h, trivial⟩
      rw [← Mp.ent_upd_clock]
      have := M.ent_clock_le x[q] 0
      omega
  · rename_i h
    have hql : ¬ q < x.length := by simpa using h
    rw [take_all hql] at hM
    exact ⟨trivial, l, Wk.refl _, x, Wk.refl _, (by first | exact trivial | exact rfl), rfl, rfl, rfl, rfl⟩
theorem pbOk : LoopOk Tryz.prog 3 118 (.loop (loopBody Tryz.prog 3 14)) (pbC) := loop_ok pbMu  mixed (KLX_ok (cc_cons lessCCc (cc_nil))) rfl (steps_cons pbStep (steps_nil))

end Go.Proofs.YtjckmoikfbcemaaGreat
