/- Forms and contracts, printed by gx.py. -/
import Derived.Test.YtjckmoikfbcemaaGreatRows
import Derived.Test.YtjckmoikfbcemaaGreatDvUse
import Derived.Test.YtjckmoikfbcemaaGreatDvArg
import Derived.ProofKit
import Derived.Test.YtjckmoikfbcemaaGreatBase
import Derived.Test.YtjckmoikfbcemaaGreatDvStab2
import Derived.Test.YtjckmoikfbcemaaGreatDvUse2
import Derived.Test.YtjckmoikfbcemaaGreatDvSort
import Derived.Test.YtjckmoikfbcemaaGreatOrdP
import Derived.Test.YtjckmoikfbcemaaGreatStP
import Derived.Test.YtjckmoikfbcemaaGreatStQ
import Derived.Test.YtjckmoikfbcemaaGreatDvClone
import Derived.Test.YtjckmoikfbcemaaGreatClone
import Derived.Test.YtjckmoikfbcemaaGreatPrO
import Derived.Test.YtjckmoikfbcemaaGreatPrF
import Derived.Test.YtjckmoikfbcemaaGreatPrM
import Derived.Test.YtjckmoikfbcemaaGreatPrL
namespace Go.Proofs.YtjckmoikfbcemaaGreat
open Go.Det Go.RowKit
set_option linter.unusedVariables false
set_option linter.unusedSimpArgs false
set_option maxRecDepth 100000
def sameCMPre : (List Cd) × (List Cd) × Unit → Prop := fun (a, (b, ())) => sameCPre (a, (b, ())) ∧ (decide (a = b)) = true
noncomputable def sameCMK : CallC := valC sameCT sameCMPre (fun _ => .bool true)
theorem sameCMCc : CcOk Tryz.prog 13 sameCMK := val_ok rfl (fun ⟨a, ⟨b, _⟩⟩ h => by have := sameCVal a b h.1; rw [show sameCRes _ = .bool true from congrArg AV.bool h.2] at this; exact this)

theorem first_is {k : Int} (h : 0 ≤ k) (l : List Cd) : firstV l k = (sortC l).take k.toNat := by
  have hs : (sortC l).length = l.length := Go.Det.Stab.sort_len l
  rw [firstV, show max k 0 = k by omega]
  rcases Nat.le_total k.toNat l.length with c | c
  · rw [Nat.min_eq_left c]
  · rw [Nat.min_eq_right c, List.take_of_length_le (by omega), List.take_of_length_le (by omega)]
theorem first_len {k : Int} (h : 0 ≤ k) (l : List Cd) : (firstV l k).length = min k.toNat l.length := by
  have hs : (sortC l).length = l.length := Go.Det.Stab.sort_len l
  rw [first_is h, List.length_take, hs]
theorem first_min {k : Int} (h : 0 ≤ k) (l : List Cd) : eqInt (Int.ofNat (firstV l k).length) (ifb (leInt k (Int.ofNat l.length)) k (Int.ofNat l.length)) = true := by
  rw [eqInt_iff, first_len h, ifb_eq, leInt_eq]
  by_cases c : k ≤ Int.ofNat l.length
  · rw [if_pos (by simpa using c)]; simp only [Int.ofNat_eq_natCast] at *; omega
  · rw [if_neg (by simpa using c)]; simp only [Int.ofNat_eq_natCast] at *; omega
theorem sortC_srt (l : List Cd) : Go.Det.Stab.Srt ltC (sortC l) := Go.Det.Stab.sort_srt weakC l
theorem first_first {k n : Int} (h : 0 ≤ k) (h2 : 0 ≤ n) (l : List Cd) : firstV (firstV l k) n = firstV l (ifb (leInt k n) k n) := by
  have e : sortC (firstV l k) = firstV l k := Go.Det.Stab.sort_id (by rw [first_is h]; exact (sortC_srt l).sublist (List.take_sublist _ _))
  rw [first_is h2, e, first_is h, List.take_take]
  have e2 : ifb (leInt k n) k n = if k ≤ n then k else n := by
    rw [ifb_eq, leInt_eq]
    by_cases c : k ≤ n
    · rw [if_pos (by simpa using c), if_pos c]
    · rw [if_neg (by simpa using c), if_neg c]
  rw [e2]
  split
  · rw [first_is h]; congr 1; omega
  · rw [first_is h2]; congr 1; omega

/-! The law ProbeOrders. -/
noncomputable def probeOrdersT : Tel ((List Cd) × Int × Int × Unit) := .cons 0 (.lst Ec) (.cons 1 (.int .i64) (.cons 2 (.int .i64) (.nil)))
abbrev probeOrdersShapes : List Sh := [.slice (.fcons (.int .i64) (.fcons (.int .i64) (.fcons (.int .i64) (.fcons (.int .i64) .fnil)))), .int .i64, .int .i64]

theorem probeOrdersFn (l : List Cd) (u : Int) (v : Int) : (callW Tryz.prog (runW Tryz.prog (KLX [(7, lives20K), (11, pickK), (9, ownCK), (8, sortK), (12, firstK), (13, sameCMK)] [(3, [(10, paC), (14, pbC)])] [26, 27] [] []) 300) 3 (probeOrdersT.cells id (l, (u, (v, ())))) (stB false) (fun v _ => yesQ v)) =
  ( True ∧ ifp (!leInt (Int.ofNat l.length) (60 : Int)) True (∃ (l_1 : List Cd), Wk (AV.vs (List.flatMap Ec.f l) l.length l.length false none (4 : Nat)) (lst Ec
  l_1) ∧ ownCPre (l_1, ()) ∧ ∃ (l_2 : List Cd), Wk (AV.vs (List.flatMap Ec.f l_1) l_1.length l_1.length false none (4 : Nat)) (lst Ec l_2) ∧ sortPre (l_2, ()) ∧
  ifp (!eqInt (Int.ofNat (sortC l_2).length) (Int.ofNat l.length)) False (LoopOk Tryz.prog (3 : FuncId) (118 : Nat) (loopBody Tryz.prog (3 : FuncId) (10 :
  Nat)).loop paC ∧ True ∧ True ∧ ∃ (l_3 : List Cd), Wk (AV.vs (List.flatMap Ec.f l) l.length l.length false none (4 : Nat)) (lst Ec l_3) ∧ ∃ (l : List Cd), Wk
  (AV.vs (List.flatMap Ec.f (sortC l_2)) (sortC l_2).length (sortC l_2).length false none (4 : Nat)) (lst Ec l) ∧ ∃ (m : Mp Cd Int), [] = Mp.enc Kc Vi64 m ∧ (0 :
  Nat) = m.clock ∧ true = true ∧ paInv ((l_3, u, v, l, (), (0 : Int), ()), m, ()) ∧ (∀ (c : List Cd × Int × Int × List Cd × Unit × Unit) (d : Mp Cd Int × Unit),
  paR0 ((l_3, u, v, l, (), (0 : Int), ()), m, ()) c d → LoopOk Tryz.prog (3 : FuncId) (118 : Nat) (loopBody Tryz.prog (3 : FuncId) (14 : Nat)).loop pbC ∧ True ∧
  True ∧ ∃ (l : List Cd), Wk (AV.vs (List.flatMap Ec.f c.1) c.1.length c.1.length false none (4 : Nat)) (lst Ec l) ∧ ∃ (l_4 : List Cd), Wk (AV.vs (List.flatMap
  Ec.f c.2.2.2.1) c.2.2.2.1.length c.2.2.2.1.length false none (4 : Nat)) (lst Ec l_4) ∧ ∃ (m : Mp Cd Int), Mp.enc Kc Vi64 d.1 = Mp.enc Kc Vi64 m ∧ d.1.clock =
  m.clock ∧ true = true ∧ pbInv ((l, c.2.1, c.2.2.1, l_4, (), (0 : Int), ()), m, ()) ∧ (∀ (c_1 : List Cd × Int × Int × List Cd × Unit) (d : Unit), pbR0 ((l,
  c.2.1, c.2.2.1, l_4, (), (0 : Int), ()), m, ()) c_1 d → pickPre (c_1.2.1, (62 : Int), ()) ∧ pickPre (c_1.2.2.1, (62 : Int), ()) ∧ ∃ (l : List Cd), Wk (AV.vs
  (List.flatMap Ec.f c_1.1) c_1.1.length c_1.1.length false none (4 : Nat)) (lst Ec l) ∧ firstPre (l, pickV c_1.2.1 (62 : Int), ()) ∧ ifp (eqInt (Int.ofNat
  (firstV l (pickV c_1.2.1 (62 : Int))).length) (ifb (leInt (pickV c_1.2.1 (62 : Int)) (Int.ofNat c_1.1.length)) (pickV c_1.2.1 (62 : Int)) (Int.ofNat
  c_1.1.length))) ((0 : Int) ≤ Int.ofNat (firstV l (pickV c_1.2.1 (62 : Int))).length ∧ Int.ofNat (firstV l (pickV c_1.2.1 (62 : Int))).length ≤
  ↑c_1.2.2.2.1.length ∧ natOf (Int.ofNat (firstV l (pickV c_1.2.1 (62 : Int))).length) ≤ c_1.2.2.2.1.length ∧ (List.flatMap Ec.f c_1.2.2.2.1).length =
  c_1.2.2.2.1.length.mul (4 : Nat) ∧ ∃ (l_5 : List Cd), Wk (AV.vs (List.flatMap Ec.f (firstV l (pickV c_1.2.1 (62 : Int)))) (firstV l (pickV c_1.2.1 (62 :
  Int))).length (firstV l (pickV c_1.2.1 (62 : Int))).length false none (4 : Nat)) (lst Ec l_5) ∧ ∃ (l_6 : List Cd), Wk (AV.vs (List.take (((natOf (Int.ofNat
  (firstV l (pickV c_1.2.1 (62 : Int))).length)).sub (0 : Nat)).mul (4 : Nat)) (List.drop (0 : Nat) (List.flatMap Ec.f c_1.2.2.2.1))) ((natOf (Int.ofNat (firstV
  l (pickV c_1.2.1 (62 : Int))).length)).sub (0 : Nat)) (c_1.2.2.2.1.length.sub (0 : Nat)) (mxEx none false) none (4 : Nat)) (lst Ec l_6) ∧ sameCMPre (l_5, l_6,
  ()) ∧ ∃ (l_7 : List Cd), Wk (AV.vs (List.flatMap Ec.f (firstV l (pickV c_1.2.1 (62 : Int)))) (firstV l (pickV c_1.2.1 (62 : Int))).length (firstV l (pickV
  c_1.2.1 (62 : Int))).length false none (4 : Nat)) (lst Ec l_7) ∧ firstPre (l_7, pickV c_1.2.2.1 (62 : Int), ()) ∧ ∃ (l : List Cd), Wk (AV.vs (List.flatMap Ec.f
  c_1.1) c_1.1.length c_1.1.length false none (4 : Nat)) (lst Ec l) ∧ firstPre (l, ifb (leInt (pickV c_1.2.1 (62 : Int)) (pickV c_1.2.2.1 (62 : Int))) (pickV
  c_1.2.1 (62 : Int)) (pickV c_1.2.2.1 (62 : Int)), ()) ∧ ∃ (l_8 : List Cd), Wk (AV.vs (List.flatMap Ec.f (firstV l_7 (pickV c_1.2.2.1 (62 : Int)))) (firstV l_7
  (pickV c_1.2.2.1 (62 : Int))).length (firstV l_7 (pickV c_1.2.2.1 (62 : Int))).length false none (4 : Nat)) (lst Ec l_8) ∧ ∃ (l_9 : List Cd), Wk (AV.vs
  (List.flatMap Ec.f (firstV l (ifb (leInt (pickV c_1.2.1 (62 : Int)) (pickV c_1.2.2.1 (62 : Int))) (pickV c_1.2.1 (62 : Int)) (pickV c_1.2.2.1 (62 : Int)))))
  (firstV l (ifb (leInt (pickV c_1.2.1 (62 : Int)) (pickV c_1.2.2.1 (62 : Int))) (pickV c_1.2.1 (62 : Int)) (pickV c_1.2.2.1 (62 : Int)))).length (firstV l (ifb
  (leInt (pickV c_1.2.1 (62 : Int)) (pickV c_1.2.2.1 (62 : Int))) (pickV c_1.2.1 (62 : Int)) (pickV c_1.2.2.1 (62 : Int)))).length false none (4 : Nat)) (lst Ec
  l_9) ∧ sameCMPre (l_8, l_9, ()) ∧ ∃ (l : List Cd), Wk (AV.vs (List.flatMap Ec.f c_1.2.2.2.1) c_1.2.2.2.1.length c_1.2.2.2.1.length false none (4 : Nat)) (lst
  Ec l) ∧ sortPre (l, ()) ∧ ∃ (l_10 : List Cd), Wk (AV.vs (List.flatMap Ec.f (sortC l)) (sortC l).length (sortC l).length false none (4 : Nat)) (lst Ec l_10) ∧ ∃
  (l : List Cd), Wk (AV.vs (List.flatMap Ec.f c_1.2.2.2.1) c_1.2.2.2.1.length c_1.2.2.2.1.length false none (4 : Nat)) (lst Ec l) ∧ sameCMPre (l_10, l, ()) ∧
  True) False) ∧ (∀ (c_1 : Unit × Unit) (d : Unit), pbR1 ((l, c.2.1, c.2.2.1, l_4, (), (0 : Int), ()), m, ()) c_1 d → False) ∧ True) ∧ True))) := by kernel_rfl

theorem probeOrdersHolds (l : List Cd) (u : Int) (v : Int) (hl : Sh.plOk (.slice (.fcons (.int .i64) (.fcons (.int .i64) (.fcons (.int .i64) (.fcons (.int .i64) .fnil))))) l) (hu : Sh.plOk (.int .i64) u) (hv : Sh.plOk (.int .i64) v) : callW Tryz.prog (runW Tryz.prog (KLX [(7, lives20K), (11, pickK), (9, ownCK), (8, sortK), (12, firstK), (13, sameCMK)] [(3, [(10, paC), (14, pbC)])] [26, 27] [] []) 300) 3 (probeOrdersT.cells id (l, (u, (v, ())))) (stB false) (fun v _ => yesQ v) := by
  refine (probeOrdersFn l u v).mpr ?_
  obtain ⟨u1, u2⟩ := wf_i64 hu
  obtain ⟨v1, v2⟩ := wf_i64 hv
  refine ⟨trivial, ?_⟩
  rw [ifp_lt]
  split
  · trivial
  · rename_i hlen
    have hl : l.length ≤ 60 := by simp only [Int.ofNat_eq_natCast] at hlen; omega
    have hs : (sortC l).length = l.length := Go.Det.Stab.sort_len l
    refine ⟨l, Wk.refl _, by show l.length ≤ 1000000; omega, l, Wk.refl _, by show l.length ≤ 1000000; omega, ?_⟩
    rw [ifp_ne, if_pos (by rw [hs])]
    refine ⟨paOk, trivial, trivial, l, Wk.refl _, sortC l, Wk.refl _, Mp.empty, rfl, rfl, (by first | exact trivial | exact rfl), ⟨0, rfl, Nat.zero_le _, by omega, fun y => by simp [Mp.empty_find], Nat.zero_le _⟩, fun c d hr => ?_, trivial⟩
    obtain ⟨l2, a2, b2, x2, _⟩ := c
    obtain ⟨M, _⟩ := d
    obtain ⟨h1, h2, h3, h4, _, hM, hc⟩ := hr
    obtain rfl : l = l2 := h1.symm
    obtain rfl : u = a2 := h2.symm
    obtain rfl : v = b2 := h3.symm
    obtain rfl : x2 = sortC l := h4
    refine ⟨pbOk, trivial, trivial, l, Wk.refl _, sortC l, Wk.refl _, M, rfl, rfl, (by first | exact trivial | exact rfl), ⟨0, rfl, Nat.zero_le _, by omega, by omega, rfl, fun y => by rw [hM y]; simp, hc⟩, fun c d hr => ?_, fun _ _ h => h, trivial⟩
    obtain ⟨l3, a3, b3, x3, _⟩ := c
    obtain ⟨g1, g2, g3, g4⟩ := hr
    obtain rfl : l = l3 := g1.symm
    obtain rfl : u = a3 := g2.symm
    obtain rfl : v = b3 := g3.symm
    obtain rfl : x3 = sortC l := g4
    obtain ⟨p1, p2⟩ := pick_range (n := u) (m := 62) (by omega)
    obtain ⟨q1, q2⟩ := pick_range (n := v) (m := 62) (by omega)
    refine ⟨⟨u1, u2, by decide⟩, ⟨v1, v2, by decide⟩, l, Wk.refl _, by show l.length ≤ 1000000; omega, ?_⟩
    have hmin := first_min p1 l
    have hff := first_first p1 q1 l
    have hfl := first_len p1 l
    have hf2 := first_len q1 (firstV l (pickV u 62))
    have hss : sortC (sortC l) = sortC l := Go.Det.Stab.sort_id (sortC_srt l)
    have hfi := first_is p1 l
    simp only at hmin hff hfl hf2 ⊢
    rw [ifp_pos hmin]
    refine ⟨Int.natCast_nonneg _, by show ((firstV l (pickV u 62)).length : Int) ≤ ((sortC l).length : Int); omega, by show (firstV l (pickV u 62)).length ≤ (sortC l).length; omega, cd_len _, firstV l (pickV u 62), Wk.refl _, firstV l (pickV u 62), wk_vs ⟨?_, rfl, rfl⟩, ⟨by show (firstV l (pickV u 62)).length ≤ 1000000; omega, by simp⟩, firstV l (pickV u 62), Wk.refl _, by show (firstV l (pickV u 62)).length ≤ 1000000; omega, l, Wk.refl _, by show l.length ≤ 1000000; omega, firstV (firstV l (pickV u 62)) (pickV v 62), Wk.refl _, firstV l _, Wk.refl _, ⟨by show (firstV (firstV l (pickV u 62)) (pickV v 62)).length ≤ 1000000; omega, by rw [hff]; simp⟩, sortC l, Wk.refl _, by show (sortC l).length ≤ 1000000; omega, sortC (sortC l), Wk.refl _, sortC l, Wk.refl _, ⟨by show (sortC (sortC l)).length ≤ 1000000; rw [hss]; omega, by rw [hss]; simp⟩, trivial⟩
    show List.take ((firstV l (pickV u 62)).length * 4) (List.drop 0 ((sortC l).flatMap Ec.f)) = (firstV l (pickV u 62)).flatMap Ec.f
    rw [List.drop_zero, enc_takeC, hfl, hfi]
    congr 1
    rcases Nat.le_total (pickV u 62).toNat l.length with c | c
    · rw [Nat.min_eq_left c]
    · rw [Nat.min_eq_right c, List.take_of_length_le (by omega), List.take_of_length_le (by omega)]
theorem probeOrdersTrue (y : ShPls probeOrdersShapes) (hy : ShPlOks probeOrdersShapes y) : callW Tryz.prog (runW Tryz.prog (KLX [(7, lives20K), (11, pickK), (9, ownCK), (8, sortK), (12, firstK), (13, sameCMK)] [(3, [(10, paC), (14, pbC)])] [26, 27] [] []) 300) 3 (ShPlAvs probeOrdersShapes y) (stB false) (fun v _ => yesQ v) :=
  probeOrdersHolds y.1 y.2.1 y.2.2.1 hy.1 hy.2.1 hy.2.2.1
theorem probeOrdersCalls {x : ShVs probeOrdersShapes} (hx : ShOks probeOrdersShapes x) {W : World} {args : Array Value} (h : VRs (frozenAll W) (ShAvs probeOrdersShapes x) args.toList) : Calls Tryz.prog 3 args W fun e w' => e = .returned (.bool true) ∧ Below W.heap.size W w' :=
  law_plain mixed (KLX_ok (cc_cons lives20Cc (cc_cons pickCc (cc_cons ownCCc (cc_cons sortCc (cc_cons firstCc (cc_cons sameCMCc (cc_nil)))))))) probeOrdersTrue hx h

end Go.Proofs.YtjckmoikfbcemaaGreat
