/- Forms and contracts, printed by gx.py. -/
import Derived.Test.YteehkdejkemnmabDoorRows
import Derived.Test.YteehkdejkemnmabDoorDvUse
import Derived.Test.YteehkdejkemnmabDoorDvArg
import Derived.ProofKit
import Derived.Test.YteehkdejkemnmabDoorBase
import Derived.Test.YteehkdejkemnmabDoorDvStab2
import Derived.Test.YteehkdejkemnmabDoorDvUse2
import Derived.Test.YteehkdejkemnmabDoorDvSort
import Derived.Test.YteehkdejkemnmabDoorOrdR
import Derived.Test.YteehkdejkemnmabDoorStR
import Derived.Test.YteehkdejkemnmabDoorStS
import Derived.Test.YteehkdejkemnmabDoorDvClone
import Derived.Test.YteehkdejkemnmabDoorClone
import Derived.Test.YteehkdejkemnmabDoorReO
import Derived.Test.YteehkdejkemnmabDoorReL
import Derived.Test.YteehkdejkemnmabDoorDvTab
namespace Go.Proofs.YteehkdejkemnmabDoor
open Go.Det Go.RowKit
set_option linter.unusedVariables false
set_option linter.unusedSimpArgs false
set_option maxRecDepth 100000
/-! wayfinder/wayfinderkit.Own[wayfinder/api.Cand] -/
noncomputable def ownCT : Tel ((List Cd) × Unit) := .cons 0 (.lst Ec) (.nil)

theorem ownCFn (l : List Cd) (Q : AV → Prop) : (callW Tryd.prog (runW Tryd.prog (KL [] []) 200) 6 (ownCT.cells id (l, ())) (stE true) (fun x st => frzW st x Q)) =
  ( (List.flatMap Ec.f l).length = l.length.mul (4 : Nat) ∧ ifp (allScalar (List.flatMap Ec.f l) && true) (ifp (roomy (Nat.add (0 : Nat) l.length) (32 : Nat)) (Q
  (AV.vs ([] ++ List.flatMap Ec.f l) (Nat.add (0 : Nat) l.length) (Nat.add (0 : Nat) l.length) false (some (1 : Nat)) (4 : Nat))) False) False) := by kernel_rfl

def ownCPre : (List Cd) × Unit → Prop := fun (l, ()) => l.length ≤ 1000000
noncomputable def ownCRes : (List Cd) × Unit → AV := fun (l, ()) => lst Ec l
noncomputable def ownCK : CallC := valC ownCT ownCPre ownCRes

theorem ownCVal (l : List Cd) (hp : ownCPre (l, ())) : Val Tryd.prog 6 (ownCT.cells id (l, ())) (ownCRes (l, ())) := by
  refine Val.ofF mixed (KL_ok (cc_nil)) (freesC rfl _) (ownCFn l) ?_
  have hp' : l.length ≤ 1000000 := hp
  refine ⟨Enc.flen Ec l, ?_⟩
  rw [ifp_pos (by rw [Enc.fscal Ec]; rfl), ifp_pos (roomy_small (by simp only [Nat.add_eq]; omega) (by decide))]
  exact tells_lst ⟨rfl, by show 0 + l.length = _; omega, rfl⟩
theorem ownCCc : CcOk Tryd.prog 6 ownCK := val_ok rfl (fun ⟨l, _⟩ h => ownCVal l h)

/-! The loop sameCL of wayfinder/wayfinderkit.Same[wayfinder/api.Cand]. -/
abbrev sameCLZ := ((List Cd) × (List Cd) × Int × Unit) × (Unit)
noncomputable def sameCLSl : Tel ((List Cd) × (List Cd) × Int × Unit) := .cons 0 (.lst Ec) (.cons 1 (.lst Ec) (.cons 5 (.int .i64) (.nil)))
noncomputable def sameCLBl : BTel (Unit) := .nil
noncomputable def sameCLFs : List (LForm sameCLZ) := [⟨_, _, sameCLSl, sameCLBl, fun x y => (x, y)⟩]
noncomputable def sameCLAlts (R0 : sameCLZ → (Unit) → (Unit) → Prop) (R1 : sameCLZ → (Bool × Unit) → (Unit) → Prop) : List (Alt sameCLZ) := [⟨.exit 0, Unit, Unit, .nil, .nil, R0⟩, ⟨.ret, Bool × Unit, Unit, .cons 4 (.bool) (.nil), .nil, R1⟩]

theorem sameCLForm (a : List Cd) (b : List Cd) (i : Int) (N : sameCLZ → Prop) (R0 : sameCLZ → (Unit) → (Unit) → Prop) (R1 : sameCLZ → (Bool × Unit) → (Unit) → Prop) : ((runW Tryd.prog (KL [] []) 100).code none 7 26 (loopBody Tryd.prog 7 4) (mkT (sameCLSl.av id (a, (b, (i, ()))))) [] (stL false (sameCLBl.obs id ())) (postL 0 sameCLFs (sameCLAlts R0 R1) ((a, (b, (i, ()))), ()) N)) =
  ( ifp (!leInt (Int.ofNat a.length) i) (idxOk i a.length ∧ ∃ (x : Int), nth (((natOf i).mul (4 : Nat)).add (0 : Nat)) (List.flatMap Ec.f a) = some (AV.int
  IntKind.i64 x) ∧ ∃ (x_1 : Int), nth (((natOf i).mul (4 : Nat)).add (1 : Nat)) (List.flatMap Ec.f a) = some (AV.int IntKind.i64 x_1) ∧ ∃ (x_2 : Int), nth
  (((natOf i).mul (4 : Nat)).add (2 : Nat)) (List.flatMap Ec.f a) = some (AV.int IntKind.i64 x_2) ∧ ∃ (x_3 : Int), nth (((natOf i).mul (4 : Nat)).add (3 : Nat))
  (List.flatMap Ec.f a) = some (AV.int IntKind.i64 x_3) ∧ idxOk i b.length ∧ ∃ (x_4 : Int), nth (((natOf i).mul (4 : Nat)).add (0 : Nat)) (List.flatMap Ec.f b) =
  some (AV.int IntKind.i64 x_4) ∧ ∃ (x_5 : Int), nth (((natOf i).mul (4 : Nat)).add (1 : Nat)) (List.flatMap Ec.f b) = some (AV.int IntKind.i64 x_5) ∧ ∃ (x_6 :
  Int), nth (((natOf i).mul (4 : Nat)).add (2 : Nat)) (List.flatMap Ec.f b) = some (AV.int IntKind.i64 x_6) ∧ ∃ (x_7 : Int), nth (((natOf i).mul (4 : Nat)).add
  (3 : Nat)) (List.flatMap Ec.f b) = some (AV.int IntKind.i64 x_7) ∧ ifp (eqInt x x_4) (ifp (eqInt x_1 x_5) (ifp (eqInt x_2 x_6) (ifp (eqInt x_3 x_7) (True ∧
  True ∧ True ∧ ∃ (l : List Cd), Wk (AV.vs (List.flatMap Ec.f a) a.length a.length false none (4 : Nat)) (lst Ec l) ∧ ∃ (l_1 : List Cd), Wk (AV.vs (List.flatMap
  Ec.f b) b.length b.length false none (4 : Nat)) (lst Ec l_1) ∧ true = true ∧ N ((l, l_1, wrapF IntKind.i64 (i.add (1 : Int)), ()), ())) (True ∧ True ∧ True ∧
  true = true ∧ R1 ((a, b, i, ()), ()) (false, ()) ())) (True ∧ True ∧ True ∧ true = true ∧ R1 ((a, b, i, ()), ()) (false, ()) ())) (True ∧ True ∧ True ∧ true =
  true ∧ R1 ((a, b, i, ()), ()) (false, ()) ())) (True ∧ True ∧ True ∧ true = true ∧ R1 ((a, b, i, ()), ()) (false, ()) ())) (True ∧ true = true ∧ R0 ((a, b, i,
  ()), ()) () ())) := by kernel_rfl

def sameCLInv : sameCLZ → Prop := fun ((a, (b, (i, ()))), ()) => ∃ k : Nat, i = k ∧ k ≤ a.length ∧ a.length ≤ 1000000 ∧ a.length = b.length ∧ a.take k = b.take k
def sameCLMu : sameCLZ → Nat := fun ((a, (b, (i, ()))), ()) => a.length - i.toNat
def sameCLR0 : sameCLZ → (Unit) → (Unit) → Prop := fun ((a, (b, (i, ()))), ()) _ _ => a = b
def sameCLR1 : sameCLZ → (Bool × Unit) → (Unit) → Prop := fun ((a, (b, (i, ()))), ()) (r, _) _ => r = false ∧ a ≠ b
noncomputable def sameCLC : LoopC := loopC 0 sameCLFs (sameCLAlts sameCLR0 sameCLR1) sameCLInv

theorem sameCLStep : stepsOk Tryd.prog (KL [] []) 100 7 26 (loopBody Tryd.prog 7 4) 0 false sameCLFs (sameCLAlts sameCLR0 sameCLR1) sameCLInv sameCLMu ⟨_, _, sameCLSl, sameCLBl, fun x y => (x, y)⟩ := by
  intro x y hz
  obtain ⟨a, b, i, _⟩ := x
  obtain _ := y
  refine (sameCLForm a b i _ _ _).mpr ?_
  obtain ⟨k, rfl, hk, hl, hab, ht⟩ := hz
  rw [ifp_lt]
  simp only [natOf_nat]
  split
  · rename_i h
    have hka : k < a.length := by simpa using h
    have hkb : k < b.length := by omega
    have far : a[k] ≠ b[k] → a ≠ b := fun hn e => hn (by subst e; rfl)
    refine ⟨idx_ok hka, _, nth_cd0 hka, _, nth_cd1 hka, _, nth_cd2 hka, _, nth_cd3 hka, idx_ok hkb, _, nth_cd0 hkb, _, nth_cd1 hkb, _, nth_cd2 hkb, _, nth_cd3 hkb, ?_⟩
    rw [ifp_eq, ifp_eq, ifp_eq, ifp_eq]
    split
    · rename_i h1
      split
      · rename_i h2
        split
        · rename_i h3
          split
          · rename_i h4
            refine ⟨trivial, trivial, trivial, a, Wk.refl _, b, Wk.refl _, (by first | exact trivial | exact rfl), ?_⟩
            rw [wsucc (by omega)]
            refine ⟨⟨k + 1, rfl, hka, hl, hab, ?_⟩, by show a.length - (k + 1) < a.length - k; omega, fun _ _ h => h, fun _ _ h => h, trivial⟩
            have e : a[k] = b[k] := Prod.ext h1 (Prod.ext h2 (Prod.ext h3 (Prod.ext h4 rfl)))
            rw [← List.take_append_getElem hka, ← List.take_append_getElem hkb, ht, e]
          · rename_i h4
            exact ⟨trivial, trivial, trivial, (by first | exact trivial | exact rfl), rfl, far fun e => h4 (by rw [e])⟩
        · rename_i h3
          exact ⟨trivial, trivial, trivial, (by first | exact trivial | exact rfl), rfl, far fun e => h3 (by rw [e])⟩
      · rename_i h2
        exact ⟨trivial, trivial, trivial, (by first | exact trivial | exact rfl), rfl, far fun e => h2 (by rw [e])⟩
    · rename_i h1
      exact ⟨trivial, trivial, trivial, (by first | exact trivial | exact rfl), rfl, far fun e => h1 (by rw [e])⟩
  · rename_i h
    refine ⟨trivial, (by first | exact trivial | exact rfl), ?_⟩
    show a = b
    rw [take_all (by simpa using h), take_all (by rw [← hab]; simpa using h)] at ht; exact ht
theorem sameCLOk : LoopOk Tryd.prog 7 26 (.loop (loopBody Tryd.prog 7 4)) (sameCLC) := loop_ok sameCLMu  mixed (KL_ok (cc_nil)) rfl (steps_cons sameCLStep (steps_nil))

/-! wayfinder/wayfinderkit.Same[wayfinder/api.Cand] -/
noncomputable def sameCT : Tel ((List Cd) × (List Cd) × Unit) := .cons 0 (.lst Ec) (.cons 1 (.lst Ec) (.nil))

theorem sameCFn (a : List Cd) (b : List Cd) (Q : AV → Prop) : (callW Tryd.prog (runW Tryd.prog (KL [] [(7, [(4, sameCLC)])]) 200) 7 (sameCT.cells id (a, (b, ()))) (stE false) (fun x st => frzW st x Q)) =
  ( ifp (!eqInt (Int.ofNat a.length) (Int.ofNat b.length)) (Q (AV.bool false)) (LoopOk Tryd.prog (7 : FuncId) (26 : Nat) (loopBody Tryd.prog (7 : FuncId) (4 :
  Nat)).loop sameCLC ∧ True ∧ True ∧ ∃ (l : List Cd), Wk (AV.vs (List.flatMap Ec.f a) a.length a.length false none (4 : Nat)) (lst Ec l) ∧ ∃ (l_1 : List Cd), Wk
  (AV.vs (List.flatMap Ec.f b) b.length b.length false none (4 : Nat)) (lst Ec l_1) ∧ true = true ∧ sameCLInv ((l, l_1, (0 : Int), ()), ()) ∧ (∀ (c d : Unit),
  sameCLR0 ((l, l_1, (0 : Int), ()), ()) c d → Q (AV.bool true)) ∧ (∀ (c : Bool × Unit) (d : Unit), sameCLR1 ((l, l_1, (0 : Int), ()), ()) c d → Q (AV.bool c.1))
  ∧ True)) := by kernel_rfl

def sameCPre : (List Cd) × (List Cd) × Unit → Prop := fun (a, (b, ())) => a.length ≤ 1000000
noncomputable def sameCRes : (List Cd) × (List Cd) × Unit → AV := fun (a, (b, ())) => .bool (decide (a = b))
noncomputable def sameCK : CallC := valC sameCT sameCPre sameCRes

theorem sameCVal (a : List Cd) (b : List Cd) (hp : sameCPre (a, (b, ()))) : Val Tryd.prog 7 (sameCT.cells id (a, (b, ()))) (sameCRes (a, (b, ()))) := by
  refine Val.ofF mixed (KL_ok (cc_nil)) (freesC rfl _) (sameCFn a b) ?_
  have hp' : a.length ≤ 1000000 := hp
  rw [ifp_ne]
  split
  · rename_i h
    refine ⟨sameCLOk, ?_⟩
    repeat (first
      | (refine ⟨Nat.le_refl _, ?_⟩)
      | (rw [ifp_pos (roomy_small (by simp only [Nat.add_eq]; omega) (by decide))])
      | (refine ⟨trivial, ?_⟩)
      | (refine ⟨(rfl : true = true), ?_⟩)
      | (refine ⟨idx_ok (by omega), ?_⟩)
      | (refine ⟨idx_ok0 (by omega), ?_⟩)
      | (refine ⟨_, nth_int (by omega), ?_⟩)
      | (refine ⟨_, _, _, _, _, _, nth_lst (by omega), ?_⟩)
      | (refine ⟨_, _, _, _, _, _, nth_lst0 (by omega), ?_⟩)
      | (refine ⟨_, Wk.refl _, ?_⟩)
      | (rw [ifp_pos rfl])
      | (refine ⟨(rfl : (_ : Tr (List AV)) = _), ?_⟩)
      | (refine ⟨(rfl : (_ : List Nat) = _), ?_⟩)
      | (refine ⟨(rfl : (_ : Code) = _), ?_⟩))
    refine ⟨⟨0, rfl, by omega, hp', by simp at h; omega, rfl⟩, fun _ _ hr => ?_, fun c _ hr => ?_, trivial⟩
    · exact tells_bool (by rw [decide_eq_true (show a = b from hr)])
    · obtain ⟨r, _⟩ := c
      obtain ⟨rfl, hr⟩ := hr
      exact tells_bool (by rw [decide_eq_false hr])
  · rename_i h
    exact tells_bool (by rw [decide_eq_false]; intro e; subst e; exact h rfl)
theorem sameCCc : CcOk Tryd.prog 7 sameCK := val_ok rfl (fun ⟨a, ⟨b, _⟩⟩ h => sameCVal a b h)

noncomputable def Kc : KEnc Cd := KEnc.ints .i64 (fun a => [a.1, a.2.1, a.2.2.1, a.2.2.2.1]) 4 (fun _ => rfl) (fun a b h => by
  obtain ⟨a1, a2, a3, a4, _⟩ := a
  obtain ⟨b1, b2, b3, b4, _⟩ := b
  simp at h
  obtain ⟨h1, h2, h3, h4⟩ := h
  rw [h1, h2, h3, h4])
abbrev Vi64 : VEnc Int := VEnc.int .i64

/-- How often each entry is left. -/
def Left (M : Mp Cd Int) (f : Cd → Int) : Prop := ∀ y, (M.find y).getD 0 = f y
theorem left_look {M : Mp Cd Int} {f : Cd → Int} (h : Left M f) (y : Cd) : lookIs (.agg [.int .i64 y.1, .int .i64 y.2.1, .int .i64 y.2.2.1, .int .i64 y.2.2.2.1]) (M.enc Kc Vi64) (.int .i64 0) (.int .i64 (f y)) (M.find y).isSome := by
  have h1 := M.look (KE := Kc) (VE := Vi64) y (.int .i64 0)
  have h2 := h y
  cases h3 : M.find y with
  | none => rw [h3] at h1 h2; simp at h2; rw [← h2]; exact h1
  | some v => rw [h3] at h1 h2; simp at h2; rw [← h2]; exact h1
theorem left_ent {M : Mp Cd Int} {f : Cd → Int} (h : Left M f) (y : Cd) : entIs (.agg [.int .i64 y.1, .int .i64 y.2.1, .int .i64 y.2.2.1, .int .i64 y.2.2.2.1]) (M.enc Kc Vi64) M.clock (.int .i64 0) (.int .i64 (f y)) ((M.ent y 0).bornAt y) ((M.ent y 0).enc Kc Vi64) (M.ent y 0).clock := by
  have h1 := M.ent_is (KE := Kc) (VE := Vi64) y 0
  rw [h y] at h1; exact h1
theorem left_look_ent {M : Mp Cd Int} {f : Cd → Int} (h : Left M f) (y : Cd) : lookIs (.agg [.int .i64 y.1, .int .i64 y.2.1, .int .i64 y.2.2.1, .int .i64 y.2.2.2.1]) ((M.ent y 0).enc Kc Vi64) (.int .i64 0) (.int .i64 (f y)) true := by
  have h1 := M.ent_find y 0
  rw [h y] at h1
  exact Mp.look_some (KE := Kc) (VE := Vi64) h1 (.int .i64 0)
theorem left_st {M : Mp Cd Int} (y : Cd) (v : Int) (hc : M.clock ≤ 1000) : stIs ((M.ent y 0).bornAt y) (.int .i64 v) ((M.ent y 0).enc Kc Vi64) (((M.ent y 0).upd y v).enc Kc Vi64) :=
  Mp.st_is (M.ent_find y 0) v (by have := M.ent_clock_le y 0; omega)
theorem left_upd {M : Mp Cd Int} {f g : Cd → Int} (h : Left M f) (y : Cd) (v : Int) (hv : g y = v) (hg : ∀ z, z ≠ y → g z = f z) : Left ((M.ent y 0).upd y v) g := by
  intro z
  rw [Mp.ent_upd_find]
  by_cases c : z = y
  · rw [if_pos c, c, hv]; rfl
  · rw [if_neg c, h z, hg z c]
theorem count_snoc {l : List Cd} {q : Nat} (h : q < l.length) (z : Cd) : ((l.take (q + 1)).count z : Int) = ((l.take q).count z : Int) + (if z = l[q] then 1 else 0) := by
  rw [← List.take_append_getElem h, List.count_append, List.count_singleton]
  by_cases c : z = l[q]
  · subst c; simp
  · rw [if_neg c, if_neg (by simpa using fun e => c e.symm)]; simp
theorem count_le {l : List Cd} (z : Cd) : l.count z ≤ l.length := List.count_le_length

def tab : List Int := [0, 1, 56, 2, 57, 49, 28, 3, 61, 58, 42, 50, 38, 29, 17, 4, 62, 47, 59, 36, 45, 43, 51, 22, 53, 39, 33, 30, 24, 18, 12, 5, 63, 55, 48, 27, 60, 41, 37, 16, 46, 35, 44, 21, 52, 32, 23, 11, 54, 26, 40, 15, 34, 20, 31, 10, 25, 14, 19, 9, 13, 8, 7, 6]
abbrev GlOk (gl : Tr (List AV)) : Prop := GlIs 0 .u8 tab gl

theorem lives21Ran : answersTrue ((run Tryd.prog 1000).call 4 [] (stG 0 .u8 tab)) = true := by kernel_rfl
theorem lives21Cc {gl : Tr (List AV)} (hg : GlOk gl) : CcOk Tryd.prog 4 (livesG gl) := livesG_ok mixed lives21Ran hg

def sameCMPre : (List Cd) × (List Cd) × Unit → Prop := fun (a, (b, ())) => sameCPre (a, (b, ())) ∧ (decide (a = b)) = true
noncomputable def sameCMK : CallC := valC sameCT sameCMPre (fun _ => .bool true)
theorem sameCMCc : CcOk Tryd.prog 7 sameCMK := val_ok rfl (fun ⟨a, ⟨b, _⟩⟩ h => by have := sameCVal a b h.1; rw [show sameCRes _ = .bool true from congrArg AV.bool h.2] at this; exact this)

theorem sortR_srt (l : List Cd) : Go.Det.Stab.Srt ltC (sortR l) := Go.Det.Stab.sort_srt weakC l
theorem sortR_len (l : List Cd) : (sortR l).length = l.length := Go.Det.Stab.sort_len l
theorem sortR_may {l : List Cd} (h : l.all mayC = true) : (sortR l).all mayC = true := by
  rw [List.all_eq_true] at h ⊢
  exact fun c hc => h c ((Go.Det.Stab.sort_perm (lt := ltC) l).mem_iff.1 hc)
theorem ord_may {l : List Cd} (h : l.all mayC = true) : ordC l = sortR l := by rw [ordC, if_pos h]
theorem ord_not {l : List Cd} {k : Nat} (hk : k < l.length) (h : mayC l[k] = false) : ordC l = [] := by rw [ordC, if_neg (by rw [all_of_get hk h]; simp)]
def firstR (s : List Cd) (m : Nat) : List Near := (s.take m).map fun c => (c.1, -1, ())
theorem lean_first {k : Int} : ∀ (os : List Cd) (i : Int) (m : Nat), i + m ≤ k → leanF k i os (firstR os m) = true
  | [], i, m, _ => by simp [firstR, leanF]
  | o :: os, i, 0, _ => by simp [firstR, leanF]
  | o :: os, i, m + 1, h => by
    have ih := lean_first (k := k) os (i + 1) m (by omega)
    rw [firstR] at ih
    rw [firstR, List.take_succ_cons, List.map_cons, leanF, ih, if_pos (show i < k by omega)]; simp
theorem first_snoc {s : List Cd} {q : Nat} (h : q < s.length) : firstR s (q + 1) = firstR s q ++ [(s[q].1, -1, ())] := by
  rw [firstR, ← List.take_append_getElem h, List.map_append]; rfl
theorem lean_ok {l : List Cd} {k : Int} (h : l.all mayC = true) (h0 : 0 ≤ k) : leanV l (firstR (sortR l) k.toNat) k = true := by
  have e : (firstR (sortR l) k.toNat).length ≤ (sortR l).length := by rw [firstR, List.length_map, List.length_take]; omega
  rw [leanV, h, ord_may h, decide_eq_true e, lean_first (k := k) _ 0 _ (by omega)]; rfl
theorem first_len (s : List Cd) (m : Nat) : (firstR s m).length ≤ m := by rw [firstR, List.length_map, List.length_take]; omega

/-! The loop roA of wayfinder/wayfinderlaw21.RerankOrders. -/
abbrev roAZ := ((List Cd) × Int × Int × Unit) × (Unit)
noncomputable def roASl : Tel ((List Cd) × Int × Int × Unit) := .cons 0 (.lst Ec) (.cons 1 (.int .i64) (.cons 5 (.int .i64) (.nil)))
noncomputable def roABl : BTel (Unit) := .nil
noncomputable def roAFs : List (LForm roAZ) := [⟨_, _, roASl, roABl, fun x y => (x, y)⟩]
noncomputable def roAAlts (R0 : roAZ → ((List Cd) × Int × Unit) → (Unit) → Prop) (R1 : roAZ → (Unit × Unit) → (Unit) → Prop) : List (Alt roAZ) := [⟨.exit 0, (List Cd) × Int × Unit, Unit, .cons 0 (.lst Ec) (.cons 1 (.int .i64) (.nil)), .nil, R0⟩, ⟨.ret, Unit × Unit, Unit, .cons 4 (.con (.bool true) rfl) (.nil), .nil, R1⟩]

theorem roAForm (l : List Cd) (n : Int) (i : Int) (N : roAZ → Prop) (R0 : roAZ → ((List Cd) × Int × Unit) → (Unit) → Prop) (R1 : roAZ → (Unit × Unit) → (Unit) → Prop) : ((runW Tryd.prog (KLX [(5, ordK)] [] [] [(3, [9])] []) 100).code none 3 204 (loopBody Tryd.prog 3 6) (mkT (roASl.av id (l, (n, (i, ()))))) [] (stL true (roABl.obs id ())) (postL 0 roAFs (roAAlts R0 R1) ((l, (n, (i, ()))), ()) N)) =
  ( ifp (!leInt (Int.ofNat l.length) i) (idxOk i l.length ∧ ∃ (x : Int), nth (((natOf i).mul (4 : Nat)).add (1 : Nat)) (List.flatMap Ec.f l) = some (AV.int
  IntKind.i64 x) ∧ ifp (!leInt (0 : Int) x) (∃ (l_1 : List Cd), Wk (AV.vs (List.flatMap Ec.f l) l.length l.length false none (4 : Nat)) (lst Ec l_1) ∧ ordPre
  (l_1, ()) ∧ Int.ofNat (ordC l_1).length = (0 : Int) ∧ True ∧ AV.bool true = AV.bool true ∧ true = true ∧ R1 ((l, n, i, ()), ()) ((), ()) ()) (idxOk i l.length
  ∧ ∃ (x : Int), nth (((natOf i).mul (4 : Nat)).add (1 : Nat)) (List.flatMap Ec.f l) = some (AV.int IntKind.i64 x) ∧ ifp (!leInt x (70368744177664 : Int)) (∃
  (l_1 : List Cd), Wk (AV.vs (List.flatMap Ec.f l) l.length l.length false none (4 : Nat)) (lst Ec l_1) ∧ ordPre (l_1, ()) ∧ Int.ofNat (ordC l_1).length = (0 :
  Int) ∧ True ∧ AV.bool true = AV.bool true ∧ true = true ∧ R1 ((l, n, i, ()), ()) ((), ()) ()) (idxOk i l.length ∧ ∃ (x : Int), nth (((natOf i).mul (4 :
  Nat)).add (2 : Nat)) (List.flatMap Ec.f l) = some (AV.int IntKind.i64 x) ∧ ifp (!leInt (0 : Int) x) (∃ (l_1 : List Cd), Wk (AV.vs (List.flatMap Ec.f l)
  l.length l.length false none (4 : Nat)) (lst Ec l_1) ∧ ordPre (l_1, ()) ∧ Int.ofNat (ordC l_1).length = (0 : Int) ∧ True ∧ AV.bool true = AV.bool true ∧ true =
  true ∧ R1 ((l, n, i, ()), ()) ((), ()) ()) (idxOk i l.length ∧ ∃ (x : Int), nth (((natOf i).mul (4 : Nat)).add (2 : Nat)) (List.flatMap Ec.f l) = some (AV.int
  IntKind.i64 x) ∧ ifp (!leInt x (281474976710656 : Int)) (∃ (l_1 : List Cd), Wk (AV.vs (List.flatMap Ec.f l) l.length l.length false none (4 : Nat)) (lst Ec
  l_1) ∧ ordPre (l_1, ()) ∧ Int.ofNat (ordC l_1).length = (0 : Int) ∧ True ∧ AV.bool true = AV.bool true ∧ true = true ∧ R1 ((l, n, i, ()), ()) ((), ()) ())
  (True ∧ ∃ (l_1 : List Cd), Wk (AV.vs (List.flatMap Ec.f l) l.length l.length false none (4 : Nat)) (lst Ec l_1) ∧ true = true ∧ N ((l_1, n, wrapF IntKind.i64
  (i.add (1 : Int)), ()), ())))))) (True ∧ ∃ (l_1 : List Cd), Wk (AV.vs (List.flatMap Ec.f l) l.length l.length false none (4 : Nat)) (lst Ec l_1) ∧ true = true
  ∧ R0 ((l, n, i, ()), ()) (l_1, n, ()) ())) := by kernel_rfl

def roAInv : roAZ → Prop := fun ((l, (n, (i, ()))), ()) => ∃ q : Nat, i = q ∧ q ≤ l.length ∧ l.length ≤ 60 ∧ (l.take q).all mayC = true
def roAMu : roAZ → Nat := fun ((l, (n, (i, ()))), ()) => l.length - i.toNat
def roAR0 : roAZ → ((List Cd) × Int × Unit) → (Unit) → Prop := fun ((l, (n, (i, ()))), ()) (l2, n2, _) _ => l2 = l ∧ n2 = n ∧ l.all mayC = true
def roAR1 : roAZ → (Unit × Unit) → (Unit) → Prop := fun ((l, (n, (i, ()))), ()) _ _ => True
noncomputable def roAC : LoopC := loopC 0 roAFs (roAAlts roAR0 roAR1) roAInv

theorem roAStep : stepsOk Tryd.prog (KLX [(5, ordK)] [] [] [(3, [9])] []) 100 3 204 (loopBody Tryd.prog 3 6) 0 true roAFs (roAAlts roAR0 roAR1) roAInv roAMu ⟨_, _, roASl, roABl, fun x y => (x, y)⟩ := by
  intro x y hz
  obtain ⟨l, n, i, _⟩ := x
  obtain _ := y
  refine (roAForm l n i _ _ _).mpr ?_
  obtain ⟨q, rfl, hq, hl, ht⟩ := hz
  rw [ifp_lt]
  simp only [natOf_nat]
  split
  · rename_i h
    have hql : q < l.length := by simpa using h
    have bad : ¬ mayC l[q] = true → ∃ l_1 : List Cd, Wk (AV.vs (l.flatMap Ec.f) l.length l.length false none 4) (lst Ec l_1) ∧ ordPre (l_1, ()) ∧ Int.ofNat (ordC l_1).length = 0 ∧ True ∧ AV.bool true = AV.bool true ∧ true = true ∧ roAR1 ((l, n, (q : Int), ()), ()) ((), ()) () := fun hb =>
      ⟨l, Wk.refl _, by show l.length ≤ _; omega, by rw [ord_not hql (by simpa using hb)]; rfl, trivial, rfl, rfl, trivial⟩
    rw [mayC_iff] at bad
    refine ⟨idx_ok hql, _, nth_cd1 hql, ?_⟩
    rw [ifp_lt]
    split
    · simp only [true_and] at bad ⊢; exact bad (by omega)
    · refine ⟨idx_ok hql, _, nth_cd1 hql, ?_⟩
      rw [ifp_lt]
      split
      · simp only [true_and] at bad ⊢; exact bad (by omega)
      · refine ⟨idx_ok hql, _, nth_cd2 hql, ?_⟩
        rw [ifp_lt]
        split
        · simp only [true_and] at bad ⊢; exact bad (by omega)
        · refine ⟨idx_ok hql, _, nth_cd2 hql, ?_⟩
          rw [ifp_lt]
          split
          · simp only [true_and] at bad ⊢; exact bad (by omega)
          · refine ⟨trivial, l, Wk.refl _, (by first | exact trivial | exact rfl), ?_⟩
            rw [wsucc (by omega)]
            exact ⟨⟨q + 1, rfl, hql, hl, by rw [all_take_succ hql, ht, mayC_iff.2 ⟨by omega, by omega⟩]; rfl⟩, by show l.length - (q + 1) < l.length - q; omega, fun _ _ h => h, fun _ _ h => h, trivial⟩
  · rename_i h
    have hql : ¬ q < l.length := by simpa using h
    exact ⟨trivial, l, Wk.refl _, (by first | exact trivial | exact rfl), rfl, rfl, by rw [take_all hql] at ht; exact ht⟩
theorem roAOk : LoopOk Tryd.prog 3 204 (.loop (loopBody Tryd.prog 3 6)) (roAC) := loop_ok roAMu  mixed (KLX_ok (cc_cons ordCc (cc_nil))) rfl (steps_cons roAStep (steps_nil))

/-! The loop roB of wayfinder/wayfinderlaw21.RerankOrders. -/
abbrev roBZ := ((List Cd) × Int × (List Cd) × Unit × Int × Unit) × ((Mp Cd Int) × Unit)
noncomputable def roBSl : Tel ((List Cd) × Int × (List Cd) × Unit × Int × Unit) := .cons 0 (.lst Ec) (.cons 1 (.int .i64) (.cons 6 (.lst Ec) (.cons 7 (.mapr 0) (.cons 8 (.int .i64) (.nil)))))
noncomputable def roBBl : BTel ((Mp Cd Int) × Unit) := .cons (.mp Kc Vi64) (.nil)
noncomputable def roBFs : List (LForm roBZ) := [⟨_, _, roBSl, roBBl, fun x y => (x, y)⟩]
noncomputable def roBAlts (R0 : roBZ → ((List Cd) × Int × (List Cd) × Unit × Unit) → ((Mp Cd Int) × Unit) → Prop) : List (Alt roBZ) := [⟨.exit 2, (List Cd) × Int × (List Cd) × Unit × Unit, (Mp Cd Int) × Unit, .cons 0 (.lst Ec) (.cons 1 (.int .i64) (.cons 6 (.lst Ec) (.cons 7 (.mapr 0) (.nil)))), .cons (.mp Kc Vi64) (.nil), R0⟩]

theorem roBForm (l : List Cd) (n : Int) (s : List Cd) (i : Int) (M : Mp Cd Int) (N : roBZ → Prop) (R0 : roBZ → ((List Cd) × Int × (List Cd) × Unit × Unit) → ((Mp Cd Int) × Unit) → Prop) : ((runW Tryd.prog (KLX [] [] [28] [] []) 100).code none 3 204 (loopBody Tryd.prog 3 15) (mkT (roBSl.av id (l, (n, (s, ((), (i, ()))))))) [] (stL true (roBBl.obs id (M, ()))) (postL 0 roBFs (roBAlts R0) ((l, (n, (s, ((), (i, ()))))), (M, ())) N)) =
  ( ifp (!leInt (Int.ofNat l.length) i) (idxOk i l.length ∧ ∃ (x : Int), nth (((natOf i).mul (4 : Nat)).add (0 : Nat)) (List.flatMap Ec.f l) = some (AV.int
  IntKind.i64 x) ∧ ∃ (x_1 : Int), nth (((natOf i).mul (4 : Nat)).add (1 : Nat)) (List.flatMap Ec.f l) = some (AV.int IntKind.i64 x_1) ∧ ∃ (x_2 : Int), nth
  (((natOf i).mul (4 : Nat)).add (2 : Nat)) (List.flatMap Ec.f l) = some (AV.int IntKind.i64 x_2) ∧ ∃ (x_3 : Int), nth (((natOf i).mul (4 : Nat)).add (3 : Nat))
  (List.flatMap Ec.f l) = some (AV.int IntKind.i64 x_3) ∧ ∃ (c : Bool), ∃ (x_4 : Int), lookIs (AV.agg [AV.int IntKind.i64 x, AV.int IntKind.i64 x_1, AV.int
  IntKind.i64 x_2, AV.int IntKind.i64 x_3]) (Mp.enc Kc Vi64 M) (AV.int IntKind.i64 (0 : Int)) (AV.int IntKind.i64 x_4) c ∧ ∃ (n_1 : Nat), ∃ (es' : List AEntry),
  ∃ (c' : Nat), ∃ (x_5 : Int), entIs (AV.agg [AV.int IntKind.i64 x, AV.int IntKind.i64 x_1, AV.int IntKind.i64 x_2, AV.int IntKind.i64 x_3]) (Mp.enc Kc Vi64 M)
  M.clock (AV.int IntKind.i64 (0 : Int)) (AV.int IntKind.i64 x_5) n_1 es' c' ∧ ∃ (es'_1 : List AEntry), stIs n_1 (AV.int IntKind.i64 (wrapF IntKind.i64 (x_4.add
  (1 : Int)))) es' es'_1 ∧ True ∧ ((∃ (c : Bool), ∃ (x_6 : Int), lookIs (AV.agg [AV.int IntKind.i64 x, AV.int IntKind.i64 x_1, AV.int IntKind.i64 x_2, AV.int
  IntKind.i64 x_3]) es' (AV.int IntKind.i64 (0 : Int)) (AV.int IntKind.i64 x_6) c ∧ AV.int IntKind.i64 x_6 = AV.int IntKind.i64 x_4) ∧ True) ∧ True ∧ ∃ (l_1 :
  List Cd), Wk (AV.vs (List.flatMap Ec.f l) l.length l.length false none (4 : Nat)) (lst Ec l_1) ∧ ∃ (l : List Cd), Wk (AV.vs (List.flatMap Ec.f s) s.length
  s.length false none (4 : Nat)) (lst Ec l) ∧ ∃ (m : Mp Cd Int), es'_1 = Mp.enc Kc Vi64 m ∧ c' = m.clock ∧ true = true ∧ N ((l_1, n, l, (), wrapF IntKind.i64
  (i.add (1 : Int)), ()), m, ())) (True ∧ ∃ (l_1 : List Cd), Wk (AV.vs (List.flatMap Ec.f l) l.length l.length false none (4 : Nat)) (lst Ec l_1) ∧ ∃ (l_2 : List
  Cd), Wk (AV.vs (List.flatMap Ec.f s) s.length s.length false none (4 : Nat)) (lst Ec l_2) ∧ ∃ (m : Mp Cd Int), Mp.enc Kc Vi64 M = Mp.enc Kc Vi64 m ∧ M.clock =
  m.clock ∧ true = true ∧ R0 ((l, n, s, (), i, ()), M, ()) (l_1, n, l_2, (), ()) (m, ()))) := by kernel_rfl

def roBInv : roBZ → Prop := fun ((l, (n, (s, ((), (i, ()))))), (M, ())) => ∃ q : Nat, i = q ∧ q ≤ l.length ∧ l.length ≤ 150 ∧ Left M (fun y => ((l.take q).count y : Int)) ∧ M.clock ≤ q
def roBMu : roBZ → Nat := fun ((l, (n, (s, ((), (i, ()))))), (M, ())) => l.length - i.toNat
def roBR0 : roBZ → ((List Cd) × Int × (List Cd) × Unit × Unit) → ((Mp Cd Int) × Unit) → Prop := fun ((l, (n, (s, ((), (i, ()))))), (M, ())) (l2, n2, s2, _) (M2, _) => l2 = l ∧ n2 = n ∧ s2 = s ∧ l.length ≤ 150 ∧ Left M2 (fun y => (l.count y : Int)) ∧ M2.clock ≤ 150
noncomputable def roBC : LoopC := loopC 0 roBFs (roBAlts roBR0) roBInv

theorem roBStep : stepsOk Tryd.prog (KLX [] [] [28] [] []) 100 3 204 (loopBody Tryd.prog 3 15) 0 true roBFs (roBAlts roBR0) roBInv roBMu ⟨_, _, roBSl, roBBl, fun x y => (x, y)⟩ := by
  intro x y hz
  obtain ⟨l, n, s, _, i, _⟩ := x
  obtain ⟨M, _⟩ := y
  refine (roBForm l n s i M _ _).mpr ?_
  obtain ⟨q, rfl, hq, hl, hM, hc⟩ := hz
  rw [ifp_lt]
  simp only [natOf_nat]
  split
  · rename_i h
    have hql : q < l.length := by simpa using h
    have hcl := count_le (l := l.take q) l[q]
    rw [List.length_take] at hcl
    have e : wrapF .i64 (Int.add ((l.take q).count l[q] : Int) 1) = ((l.take q).count l[q] : Int) + 1 := by rw [wadd (by omega) (by omega)]
    refine ⟨idx_ok hql, _, nth_cd0 hql, _, nth_cd1 hql, _, nth_cd2 hql, _, nth_cd3 hql, _, _, left_look hM l[q], _, _, _, _, left_ent hM l[q], _, left_st l[q] _ (by omega), trivial, ⟨⟨_, _, left_look_ent hM l[q], rfl⟩, trivial⟩, trivial, l, Wk.refl _, s, Wk.refl _, _, rfl, Mp.ent_upd_clock _ _ _ _, (by first | exact trivial | exact rfl), ?_⟩
    refine ⟨⟨q + 1, by rw [wsucc (by omega)], hql, hl, left_upd hM _ _ (by rw [e, count_snoc hql, if_pos rfl]) (fun z hz => by rw [count_snoc hql, if_neg hz]; simp), ?_⟩, by rw [wsucc (by omega)]; show l.length - (q + 1) < l.length - q; omega, fun _ _ h => h, trivial⟩
    rw [← Mp.ent_upd_clock]
    have := M.ent_clock_le l[q] 0
    omega
  · rename_i h
    have hql : ¬ q < l.length := by simpa using h
    rw [take_all hql] at hM
    exact ⟨trivial, l, Wk.refl _, s, Wk.refl _, M, rfl, rfl, (by first | exact trivial | exact rfl), rfl, rfl, rfl, hl, hM, by omega⟩
theorem roBOk : LoopOk Tryd.prog 3 204 (.loop (loopBody Tryd.prog 3 15)) (roBC) := loop_ok roBMu  mixed (KLX_ok (cc_nil)) rfl (steps_cons roBStep (steps_nil))

/-! The loop roC of wayfinder/wayfinderlaw21.RerankOrders. -/
abbrev roCZ := ((List Cd) × Int × (List Cd) × Unit × Unit × Int × Unit) × ((Mp Cd Int) × (Unit × (List Near) × Unit) × Unit × Unit)
noncomputable def roCSl : Tel ((List Cd) × Int × (List Cd) × Unit × Unit × Int × Unit) := .cons 0 (.lst Ec) (.cons 1 (.int .i64) (.cons 6 (.lst Ec) (.cons 7 (.mapr 0) (.cons 9 (.ptr 1) (.cons 10 (.int .i64) (.nil))))))
noncomputable def roCBl : BTel ((Mp Cd Int) × (Unit × (List Near) × Unit) × Unit × Unit) := .cons (.mp Kc Vi64) (.cons (.row (.cons 0 (.nilS) (.cons 1 (.own En 2) (.nil)))) (.cons (.spare) (.nil)))
noncomputable def roCSl0 : Tel ((List Cd) × Int × (List Cd) × Unit × Unit × Int × Unit) := .cons 0 (.lst Ec) (.cons 1 (.int .i64) (.cons 6 (.lst Ec) (.cons 7 (.mapr 0) (.cons 9 (.ptr 1) (.cons 10 (.int .i64) (.nil))))))
noncomputable def roCBl0 : BTel ((Mp Cd Int) × (Unit × Unit × Unit) × Unit) := .cons (.mp Kc Vi64) (.cons (.row (.cons 0 (.nilS) (.cons 1 (.nilS) (.nil)))) (.nil))
noncomputable def roCZ0 : ((List Cd) × Int × (List Cd) × Unit × Unit × Int × Unit) → ((Mp Cd Int) × (Unit × Unit × Unit) × Unit) → roCZ := fun (l, (n, (s, ((), ((), (i, ())))))) (M, (((), ((), ())), ())) => ((l, (n, (s, ((), ((), (i, ())))))), (M, (((), ([], ())), ((), ()))))
noncomputable def roCFs : List (LForm roCZ) := [⟨_, _, roCSl, roCBl, fun x y => (x, y)⟩, ⟨_, _, roCSl0, roCBl0, roCZ0⟩]
noncomputable def roCAlts (R0 : roCZ → ((List Cd) × Int × Unit × Unit) → ((Unit × (List Near) × Unit) × Unit × Unit) → Prop) (R1 : roCZ → ((List Cd) × Int × Unit × Unit) → ((Unit × Unit × Unit) × Unit) → Prop) (R2 : roCZ → (Unit × Unit) → (Unit) → Prop) : List (Alt roCZ) := [⟨.exit 4, (List Cd) × Int × Unit × Unit, (Unit × (List Near) × Unit) × Unit × Unit, .cons 0 (.lst Ec) (.cons 1 (.int .i64) (.cons 9 (.ptr 0) (.nil))), .cons (.row (.cons 0 (.nilS) (.cons 1 (.own En 1) (.nil)))) (.cons (.spare) (.nil)), R0⟩, ⟨.exit 4, (List Cd) × Int × Unit × Unit, (Unit × Unit × Unit) × Unit, .cons 0 (.lst Ec) (.cons 1 (.int .i64) (.cons 9 (.ptr 0) (.nil))), .cons (.row (.cons 0 (.nilS) (.cons 1 (.nilS) (.nil)))) (.nil), R1⟩, ⟨.ret, Unit × Unit, Unit, .cons 4 (.con (.bool false) rfl) (.nil), .nil, R2⟩]

theorem roCForm (l : List Cd) (n : Int) (s : List Cd) (i : Int) (M : Mp Cd Int) (R : List Near) (N : roCZ → Prop) (R0 : roCZ → ((List Cd) × Int × Unit × Unit) → ((Unit × (List Near) × Unit) × Unit × Unit) → Prop) (R1 : roCZ → ((List Cd) × Int × Unit × Unit) → ((Unit × Unit × Unit) × Unit) → Prop) (R2 : roCZ → (Unit × Unit) → (Unit) → Prop) : ((runW Tryd.prog (KLX [] [] [28] [] []) 100).code none 3 204 (loopBody Tryd.prog 3 21) (mkT (roCSl.av id (l, (n, (s, ((), ((), (i, ())))))))) [] (stL true (roCBl.obs id (M, (((), (R, ())), ((), ()))))) (postL 0 roCFs (roCAlts R0 R1 R2) ((l, (n, (s, ((), ((), (i, ())))))), (M, (((), (R, ())), ((), ())))) N)) =
  ( ifp (!leInt (Int.ofNat s.length) i) (idxOk i s.length ∧ ∃ (x : Int), nth (((natOf i).mul (4 : Nat)).add (0 : Nat)) (List.flatMap Ec.f s) = some (AV.int
  IntKind.i64 x) ∧ ∃ (x_1 : Int), nth (((natOf i).mul (4 : Nat)).add (1 : Nat)) (List.flatMap Ec.f s) = some (AV.int IntKind.i64 x_1) ∧ ∃ (x_2 : Int), nth
  (((natOf i).mul (4 : Nat)).add (2 : Nat)) (List.flatMap Ec.f s) = some (AV.int IntKind.i64 x_2) ∧ ∃ (x_3 : Int), nth (((natOf i).mul (4 : Nat)).add (3 : Nat))
  (List.flatMap Ec.f s) = some (AV.int IntKind.i64 x_3) ∧ ∃ (c : Bool), ∃ (x_4 : Int), lookIs (AV.agg [AV.int IntKind.i64 x, AV.int IntKind.i64 x_1, AV.int
  IntKind.i64 x_2, AV.int IntKind.i64 x_3]) (Mp.enc Kc Vi64 M) (AV.int IntKind.i64 (0 : Int)) (AV.int IntKind.i64 x_4) c ∧ ∃ (n_1 : Nat), ∃ (es' : List AEntry),
  ∃ (c' : Nat), ∃ (x_5 : Int), entIs (AV.agg [AV.int IntKind.i64 x, AV.int IntKind.i64 x_1, AV.int IntKind.i64 x_2, AV.int IntKind.i64 x_3]) (Mp.enc Kc Vi64 M)
  M.clock (AV.int IntKind.i64 (0 : Int)) (AV.int IntKind.i64 x_5) n_1 es' c' ∧ ∃ (es'_1 : List AEntry), stIs n_1 (AV.int IntKind.i64 (wrapF IntKind.i64 (x_4.sub
  (1 : Int)))) es' es'_1 ∧ True ∧ ((∃ (c : Bool), ∃ (x_6 : Int), lookIs (AV.agg [AV.int IntKind.i64 x, AV.int IntKind.i64 x_1, AV.int IntKind.i64 x_2, AV.int
  IntKind.i64 x_3]) es' (AV.int IntKind.i64 (0 : Int)) (AV.int IntKind.i64 x_6) c ∧ AV.int IntKind.i64 x_6 = AV.int IntKind.i64 x_4) ∧ True) ∧ idxOk i s.length ∧
  ∃ (x : Int), nth (((natOf i).mul (4 : Nat)).add (0 : Nat)) (List.flatMap Ec.f s) = some (AV.int IntKind.i64 x) ∧ ∃ (x_6 : Int), nth (((natOf i).mul (4 :
  Nat)).add (1 : Nat)) (List.flatMap Ec.f s) = some (AV.int IntKind.i64 x_6) ∧ ∃ (x_7 : Int), nth (((natOf i).mul (4 : Nat)).add (2 : Nat)) (List.flatMap Ec.f s)
  = some (AV.int IntKind.i64 x_7) ∧ ∃ (x_8 : Int), nth (((natOf i).mul (4 : Nat)).add (3 : Nat)) (List.flatMap Ec.f s) = some (AV.int IntKind.i64 x_8) ∧ ∃ (c :
  Bool), ∃ (x_9 : Int), lookIs (AV.agg [AV.int IntKind.i64 x, AV.int IntKind.i64 x_6, AV.int IntKind.i64 x_7, AV.int IntKind.i64 x_8]) es'_1 (AV.int IntKind.i64
  (0 : Int)) (AV.int IntKind.i64 x_9) c ∧ ifp (!leInt (0 : Int) x_9) (True ∧ True ∧ True ∧ AV.bool false = AV.bool false ∧ true = true ∧ R2 ((l, n, s, (), (), i,
  ()), M, ((), R, ()), (), ()) ((), ()) ()) (ifp (!leInt i (0 : Int)) (idxOk (wrapF IntKind.i64 (i.sub (1 : Int))) s.length ∧ ∃ (x : Int), nth (((natOf (wrapF
  IntKind.i64 (i.sub (1 : Int)))).mul (4 : Nat)).add (1 : Nat)) (List.flatMap Ec.f s) = some (AV.int IntKind.i64 x) ∧ idxOk (wrapF IntKind.i64 (i.sub (1 : Int)))
  s.length ∧ ∃ (x_10 : Int), nth (((natOf (wrapF IntKind.i64 (i.sub (1 : Int)))).mul (4 : Nat)).add (2 : Nat)) (List.flatMap Ec.f s) = some (AV.int IntKind.i64
  x_10) ∧ idxOk i s.length ∧ ∃ (x_11 : Int), nth (((natOf i).mul (4 : Nat)).add (1 : Nat)) (List.flatMap Ec.f s) = some (AV.int IntKind.i64 x_11) ∧ idxOk i
  s.length ∧ ∃ (x_12 : Int), nth (((natOf i).mul (4 : Nat)).add (2 : Nat)) (List.flatMap Ec.f s) = some (AV.int IntKind.i64 x_12) ∧ ifp (!leInt (wrapF
  IntKind.i64 (x.sub x_10)) (wrapF IntKind.i64 (x_11.sub x_12))) (True ∧ True ∧ True ∧ True ∧ True ∧ True ∧ True ∧ AV.bool false = AV.bool false ∧ true = true ∧
  R2 ((l, n, s, (), (), i, ()), M, ((), R, ()), (), ()) ((), ()) ()) (idxOk (wrapF IntKind.i64 (i.sub (1 : Int))) s.length ∧ ∃ (x : Int), nth (((natOf (wrapF
  IntKind.i64 (i.sub (1 : Int)))).mul (4 : Nat)).add (1 : Nat)) (List.flatMap Ec.f s) = some (AV.int IntKind.i64 x) ∧ idxOk (wrapF IntKind.i64 (i.sub (1 : Int)))
  s.length ∧ ∃ (x_13 : Int), nth (((natOf (wrapF IntKind.i64 (i.sub (1 : Int)))).mul (4 : Nat)).add (2 : Nat)) (List.flatMap Ec.f s) = some (AV.int IntKind.i64
  x_13) ∧ idxOk i s.length ∧ ∃ (x_14 : Int), nth (((natOf i).mul (4 : Nat)).add (1 : Nat)) (List.flatMap Ec.f s) = some (AV.int IntKind.i64 x_14) ∧ idxOk i
  s.length ∧ ∃ (x_15 : Int), nth (((natOf i).mul (4 : Nat)).add (2 : Nat)) (List.flatMap Ec.f s) = some (AV.int IntKind.i64 x_15) ∧ ifp (eqInt (wrapF IntKind.i64
  (x.sub x_13)) (wrapF IntKind.i64 (x_14.sub x_15))) (idxOk (wrapF IntKind.i64 (i.sub (1 : Int))) s.length ∧ ∃ (x : Int), nth (((natOf (wrapF IntKind.i64 (i.sub
  (1 : Int)))).mul (4 : Nat)).add (0 : Nat)) (List.flatMap Ec.f s) = some (AV.int IntKind.i64 x) ∧ idxOk i s.length ∧ ∃ (x_16 : Int), nth (((natOf i).mul (4 :
  Nat)).add (0 : Nat)) (List.flatMap Ec.f s) = some (AV.int IntKind.i64 x_16) ∧ ifp (!leInt x x_16) (True ∧ True ∧ True ∧ True ∧ True ∧ True ∧ True ∧ True ∧ True
  ∧ True ∧ True ∧ True ∧ True ∧ AV.bool false = AV.bool false ∧ true = true ∧ R2 ((l, n, s, (), (), i, ()), M, ((), R, ()), (), ()) ((), ()) ()) (True ∧ True ∧
  True ∧ True ∧ True ∧ True ∧ True ∧ True ∧ True ∧ True ∧ True ∧ True ∧ ifp (!leInt n i) (idxOk i s.length ∧ ∃ (x : Int), nth (((natOf i).mul (4 : Nat)).add (0 :
  Nat)) (List.flatMap Ec.f s) = some (AV.int IntKind.i64 x) ∧ (2 : Nat) ≤ (2 : Nat) ∧ ifp (roomy (R.length.add (1 : Nat)) (16 : Nat)) (True ∧ True ∧ True ∧ ((∃
  (l_1 : List Cd), Wk (AV.vs (List.flatMap Ec.f l) l.length l.length false none (4 : Nat)) (lst Ec l_1) ∧ ∃ (l : List Cd), Wk (AV.vs (List.flatMap Ec.f s)
  s.length s.length false none (4 : Nat)) (lst Ec l) ∧ ∃ (m : Mp Cd Int), es'_1 = Mp.enc Kc Vi64 m ∧ c' = m.clock ∧ ∃ (l_2 : List Near), (WkL (List.flatMap En.f
  R ++ [AV.int IntKind.i64 x, AV.int IntKind.i64 (-1 : Int)]) (List.flatMap En.f l_2) ∧ R.length.add (1 : Nat) = l_2.length ∧ (2 : Nat) = (2 : Nat)) ∧ true =
  true ∧ N ((l_1, n, l, (), (), wrapF IntKind.i64 (i.add (1 : Int)), ()), m, ((), l_2, ()), (), ())) ∨ ∃ (l_1 : List Cd), Wk (AV.vs (List.flatMap Ec.f l)
  l.length l.length false none (4 : Nat)) (lst Ec l_1) ∧ ∃ (l : List Cd), Wk (AV.vs (List.flatMap Ec.f s) s.length s.length false none (4 : Nat)) (lst Ec l) ∧ ∃
  (m : Mp Cd Int), es'_1 = Mp.enc Kc Vi64 m ∧ c' = m.clock ∧ False)) False) (True ∧ ((∃ (l_1 : List Cd), Wk (AV.vs (List.flatMap Ec.f l) l.length l.length false
  none (4 : Nat)) (lst Ec l_1) ∧ ∃ (l : List Cd), Wk (AV.vs (List.flatMap Ec.f s) s.length s.length false none (4 : Nat)) (lst Ec l) ∧ ∃ (m : Mp Cd Int), es'_1 =
  Mp.enc Kc Vi64 m ∧ c' = m.clock ∧ ∃ (l_2 : List Near), (WkL (List.flatMap En.f R) (List.flatMap En.f l_2) ∧ R.length = l_2.length ∧ (2 : Nat) = (2 : Nat)) ∧
  true = true ∧ N ((l_1, n, l, (), (), wrapF IntKind.i64 (i.add (1 : Int)), ()), m, ((), l_2, ()), (), ())) ∨ ∃ (l_1 : List Cd), Wk (AV.vs (List.flatMap Ec.f l)
  l.length l.length false none (4 : Nat)) (lst Ec l_1) ∧ ∃ (l : List Cd), Wk (AV.vs (List.flatMap Ec.f s) s.length s.length false none (4 : Nat)) (lst Ec l) ∧ ∃
  (m : Mp Cd Int), es'_1 = Mp.enc Kc Vi64 m ∧ c' = m.clock ∧ False)))) (True ∧ True ∧ True ∧ True ∧ True ∧ True ∧ True ∧ True ∧ True ∧ True ∧ ifp (!leInt n i)
  (idxOk i s.length ∧ ∃ (x : Int), nth (((natOf i).mul (4 : Nat)).add (0 : Nat)) (List.flatMap Ec.f s) = some (AV.int IntKind.i64 x) ∧ (2 : Nat) ≤ (2 : Nat) ∧
  ifp (roomy (R.length.add (1 : Nat)) (16 : Nat)) (True ∧ True ∧ True ∧ ((∃ (l_1 : List Cd), Wk (AV.vs (List.flatMap Ec.f l) l.length l.length false none (4 :
  Nat)) (lst Ec l_1) ∧ ∃ (l : List Cd), Wk (AV.vs (List.flatMap Ec.f s) s.length s.length false none (4 : Nat)) (lst Ec l) ∧ ∃ (m : Mp Cd Int), es'_1 = Mp.enc Kc
  Vi64 m ∧ c' = m.clock ∧ ∃ (l_2 : List Near), (WkL (List.flatMap En.f R ++ [AV.int IntKind.i64 x, AV.int IntKind.i64 (-1 : Int)]) (List.flatMap En.f l_2) ∧
  R.length.add (1 : Nat) = l_2.length ∧ (2 : Nat) = (2 : Nat)) ∧ true = true ∧ N ((l_1, n, l, (), (), wrapF IntKind.i64 (i.add (1 : Int)), ()), m, ((), l_2, ()),
  (), ())) ∨ ∃ (l_1 : List Cd), Wk (AV.vs (List.flatMap Ec.f l) l.length l.length false none (4 : Nat)) (lst Ec l_1) ∧ ∃ (l : List Cd), Wk (AV.vs (List.flatMap
  Ec.f s) s.length s.length false none (4 : Nat)) (lst Ec l) ∧ ∃ (m : Mp Cd Int), es'_1 = Mp.enc Kc Vi64 m ∧ c' = m.clock ∧ False)) False) (True ∧ ((∃ (l_1 :
  List Cd), Wk (AV.vs (List.flatMap Ec.f l) l.length l.length false none (4 : Nat)) (lst Ec l_1) ∧ ∃ (l : List Cd), Wk (AV.vs (List.flatMap Ec.f s) s.length
  s.length false none (4 : Nat)) (lst Ec l) ∧ ∃ (m : Mp Cd Int), es'_1 = Mp.enc Kc Vi64 m ∧ c' = m.clock ∧ ∃ (l_2 : List Near), (WkL (List.flatMap En.f R)
  (List.flatMap En.f l_2) ∧ R.length = l_2.length ∧ (2 : Nat) = (2 : Nat)) ∧ true = true ∧ N ((l_1, n, l, (), (), wrapF IntKind.i64 (i.add (1 : Int)), ()), m,
  ((), l_2, ()), (), ())) ∨ ∃ (l_1 : List Cd), Wk (AV.vs (List.flatMap Ec.f l) l.length l.length false none (4 : Nat)) (lst Ec l_1) ∧ ∃ (l : List Cd), Wk (AV.vs
  (List.flatMap Ec.f s) s.length s.length false none (4 : Nat)) (lst Ec l) ∧ ∃ (m : Mp Cd Int), es'_1 = Mp.enc Kc Vi64 m ∧ c' = m.clock ∧ False))))) (True ∧ True
  ∧ ifp (!leInt n i) (idxOk i s.length ∧ ∃ (x : Int), nth (((natOf i).mul (4 : Nat)).add (0 : Nat)) (List.flatMap Ec.f s) = some (AV.int IntKind.i64 x) ∧ (2 :
  Nat) ≤ (2 : Nat) ∧ ifp (roomy (R.length.add (1 : Nat)) (16 : Nat)) (True ∧ True ∧ True ∧ ((∃ (l_1 : List Cd), Wk (AV.vs (List.flatMap Ec.f l) l.length l.length
  false none (4 : Nat)) (lst Ec l_1) ∧ ∃ (l : List Cd), Wk (AV.vs (List.flatMap Ec.f s) s.length s.length false none (4 : Nat)) (lst Ec l) ∧ ∃ (m : Mp Cd Int),
  es'_1 = Mp.enc Kc Vi64 m ∧ c' = m.clock ∧ ∃ (l_2 : List Near), (WkL (List.flatMap En.f R ++ [AV.int IntKind.i64 x, AV.int IntKind.i64 (-1 : Int)])
  (List.flatMap En.f l_2) ∧ R.length.add (1 : Nat) = l_2.length ∧ (2 : Nat) = (2 : Nat)) ∧ true = true ∧ N ((l_1, n, l, (), (), wrapF IntKind.i64 (i.add (1 :
  Int)), ()), m, ((), l_2, ()), (), ())) ∨ ∃ (l_1 : List Cd), Wk (AV.vs (List.flatMap Ec.f l) l.length l.length false none (4 : Nat)) (lst Ec l_1) ∧ ∃ (l : List
  Cd), Wk (AV.vs (List.flatMap Ec.f s) s.length s.length false none (4 : Nat)) (lst Ec l) ∧ ∃ (m : Mp Cd Int), es'_1 = Mp.enc Kc Vi64 m ∧ c' = m.clock ∧ False))
  False) (True ∧ ((∃ (l_1 : List Cd), Wk (AV.vs (List.flatMap Ec.f l) l.length l.length false none (4 : Nat)) (lst Ec l_1) ∧ ∃ (l : List Cd), Wk (AV.vs
  (List.flatMap Ec.f s) s.length s.length false none (4 : Nat)) (lst Ec l) ∧ ∃ (m : Mp Cd Int), es'_1 = Mp.enc Kc Vi64 m ∧ c' = m.clock ∧ ∃ (l_2 : List Near),
  (WkL (List.flatMap En.f R) (List.flatMap En.f l_2) ∧ R.length = l_2.length ∧ (2 : Nat) = (2 : Nat)) ∧ true = true ∧ N ((l_1, n, l, (), (), wrapF IntKind.i64
  (i.add (1 : Int)), ()), m, ((), l_2, ()), (), ())) ∨ ∃ (l_1 : List Cd), Wk (AV.vs (List.flatMap Ec.f l) l.length l.length false none (4 : Nat)) (lst Ec l_1) ∧
  ∃ (l : List Cd), Wk (AV.vs (List.flatMap Ec.f s) s.length s.length false none (4 : Nat)) (lst Ec l) ∧ ∃ (m : Mp Cd Int), es'_1 = Mp.enc Kc Vi64 m ∧ c' =
  m.clock ∧ False))))) ((True ∧ ∃ (l_1 : List Cd), Wk (AV.vs (List.flatMap Ec.f l) l.length l.length false none (4 : Nat)) (lst Ec l_1) ∧ ∃ (l_2 : List Near),
  (WkL (List.flatMap En.f R) (List.flatMap En.f l_2) ∧ R.length = l_2.length ∧ (2 : Nat) = (2 : Nat)) ∧ true = true ∧ R0 ((l, n, s, (), (), i, ()), M, ((), R,
  ()), (), ()) (l_1, n, (), ()) (((), l_2, ()), (), ())) ∨ True ∧ ∃ (l_1 : List Cd), Wk (AV.vs (List.flatMap Ec.f l) l.length l.length false none (4 : Nat)) (lst
  Ec l_1) ∧ False)) := by kernel_rfl

theorem roCForm0 (l : List Cd) (n : Int) (s : List Cd) (i : Int) (M : Mp Cd Int) (N : roCZ → Prop) (R0 : roCZ → ((List Cd) × Int × Unit × Unit) → ((Unit × (List Near) × Unit) × Unit × Unit) → Prop) (R1 : roCZ → ((List Cd) × Int × Unit × Unit) → ((Unit × Unit × Unit) × Unit) → Prop) (R2 : roCZ → (Unit × Unit) → (Unit) → Prop) : ((runW Tryd.prog (KLX [] [] [28] [] []) 100).code none 3 204 (loopBody Tryd.prog 3 21) (mkT (roCSl0.av id (l, (n, (s, ((), ((), (i, ())))))))) [] (stL true (roCBl0.obs id (M, (((), ((), ())), ())))) (postL 0 roCFs (roCAlts R0 R1 R2) (roCZ0 (l, (n, (s, ((), ((), (i, ())))))) (M, (((), ((), ())), ()))) N)) =
  ( ifp (!leInt (Int.ofNat s.length) i) (idxOk i s.length ∧ ∃ (x : Int), nth (((natOf i).mul (4 : Nat)).add (0 : Nat)) (List.flatMap Ec.f s) = some (AV.int
  IntKind.i64 x) ∧ ∃ (x_1 : Int), nth (((natOf i).mul (4 : Nat)).add (1 : Nat)) (List.flatMap Ec.f s) = some (AV.int IntKind.i64 x_1) ∧ ∃ (x_2 : Int), nth
  (((natOf i).mul (4 : Nat)).add (2 : Nat)) (List.flatMap Ec.f s) = some (AV.int IntKind.i64 x_2) ∧ ∃ (x_3 : Int), nth (((natOf i).mul (4 : Nat)).add (3 : Nat))
  (List.flatMap Ec.f s) = some (AV.int IntKind.i64 x_3) ∧ ∃ (c : Bool), ∃ (x_4 : Int), lookIs (AV.agg [AV.int IntKind.i64 x, AV.int IntKind.i64 x_1, AV.int
  IntKind.i64 x_2, AV.int IntKind.i64 x_3]) (Mp.enc Kc Vi64 M) (AV.int IntKind.i64 (0 : Int)) (AV.int IntKind.i64 x_4) c ∧ ∃ (n_1 : Nat), ∃ (es' : List AEntry),
  ∃ (c' : Nat), ∃ (x_5 : Int), entIs (AV.agg [AV.int IntKind.i64 x, AV.int IntKind.i64 x_1, AV.int IntKind.i64 x_2, AV.int IntKind.i64 x_3]) (Mp.enc Kc Vi64 M)
  M.clock (AV.int IntKind.i64 (0 : Int)) (AV.int IntKind.i64 x_5) n_1 es' c' ∧ ∃ (es'_1 : List AEntry), stIs n_1 (AV.int IntKind.i64 (wrapF IntKind.i64 (x_4.sub
  (1 : Int)))) es' es'_1 ∧ True ∧ ((∃ (c : Bool), ∃ (x_6 : Int), lookIs (AV.agg [AV.int IntKind.i64 x, AV.int IntKind.i64 x_1, AV.int IntKind.i64 x_2, AV.int
  IntKind.i64 x_3]) es' (AV.int IntKind.i64 (0 : Int)) (AV.int IntKind.i64 x_6) c ∧ AV.int IntKind.i64 x_6 = AV.int IntKind.i64 x_4) ∧ True) ∧ idxOk i s.length ∧
  ∃ (x : Int), nth (((natOf i).mul (4 : Nat)).add (0 : Nat)) (List.flatMap Ec.f s) = some (AV.int IntKind.i64 x) ∧ ∃ (x_6 : Int), nth (((natOf i).mul (4 :
  Nat)).add (1 : Nat)) (List.flatMap Ec.f s) = some (AV.int IntKind.i64 x_6) ∧ ∃ (x_7 : Int), nth (((natOf i).mul (4 : Nat)).add (2 : Nat)) (List.flatMap Ec.f s)
  = some (AV.int IntKind.i64 x_7) ∧ ∃ (x_8 : Int), nth (((natOf i).mul (4 : Nat)).add (3 : Nat)) (List.flatMap Ec.f s) = some (AV.int IntKind.i64 x_8) ∧ ∃ (c :
  Bool), ∃ (x_9 : Int), lookIs (AV.agg [AV.int IntKind.i64 x, AV.int IntKind.i64 x_6, AV.int IntKind.i64 x_7, AV.int IntKind.i64 x_8]) es'_1 (AV.int IntKind.i64
  (0 : Int)) (AV.int IntKind.i64 x_9) c ∧ ifp (!leInt (0 : Int) x_9) (True ∧ True ∧ True ∧ AV.bool false = AV.bool false ∧ true = true ∧ R2 ((l, n, s, (), (), i,
  ()), M, ((), [], ()), (), ()) ((), ()) ()) (ifp (!leInt i (0 : Int)) (idxOk (wrapF IntKind.i64 (i.sub (1 : Int))) s.length ∧ ∃ (x : Int), nth (((natOf (wrapF
  IntKind.i64 (i.sub (1 : Int)))).mul (4 : Nat)).add (1 : Nat)) (List.flatMap Ec.f s) = some (AV.int IntKind.i64 x) ∧ idxOk (wrapF IntKind.i64 (i.sub (1 : Int)))
  s.length ∧ ∃ (x_10 : Int), nth (((natOf (wrapF IntKind.i64 (i.sub (1 : Int)))).mul (4 : Nat)).add (2 : Nat)) (List.flatMap Ec.f s) = some (AV.int IntKind.i64
  x_10) ∧ idxOk i s.length ∧ ∃ (x_11 : Int), nth (((natOf i).mul (4 : Nat)).add (1 : Nat)) (List.flatMap Ec.f s) = some (AV.int IntKind.i64 x_11) ∧ idxOk i
  s.length ∧ ∃ (x_12 : Int), nth (((natOf i).mul (4 : Nat)).add (2 : Nat)) (List.flatMap Ec.f s) = some (AV.int IntKind.i64 x_12) ∧ ifp (!leInt (wrapF
  IntKind.i64 (x.sub x_10)) (wrapF IntKind.i64 (x_11.sub x_12))) (True ∧ True ∧ True ∧ True ∧ True ∧ True ∧ True ∧ AV.bool false = AV.bool false ∧ true = true ∧
  R2 ((l, n, s, (), (), i, ()), M, ((), [], ()), (), ()) ((), ()) ()) (idxOk (wrapF IntKind.i64 (i.sub (1 : Int))) s.length ∧ ∃ (x : Int), nth (((natOf (wrapF
  IntKind.i64 (i.sub (1 : Int)))).mul (4 : Nat)).add (1 : Nat)) (List.flatMap Ec.f s) = some (AV.int IntKind.i64 x) ∧ idxOk (wrapF IntKind.i64 (i.sub (1 : Int)))
  s.length ∧ ∃ (x_13 : Int), nth (((natOf (wrapF IntKind.i64 (i.sub (1 : Int)))).mul (4 : Nat)).add (2 : Nat)) (List.flatMap Ec.f s) = some (AV.int IntKind.i64
  x_13) ∧ idxOk i s.length ∧ ∃ (x_14 : Int), nth (((natOf i).mul (4 : Nat)).add (1 : Nat)) (List.flatMap Ec.f s) = some (AV.int IntKind.i64 x_14) ∧ idxOk i
  s.length ∧ ∃ (x_15 : Int), nth (((natOf i).mul (4 : Nat)).add (2 : Nat)) (List.flatMap Ec.f s) = some (AV.int IntKind.i64 x_15) ∧ ifp (eqInt (wrapF IntKind.i64
  (x.sub x_13)) (wrapF IntKind.i64 (x_14.sub x_15))) (idxOk (wrapF IntKind.i64 (i.sub (1 : Int))) s.length ∧ ∃ (x : Int), nth (((natOf (wrapF IntKind.i64 (i.sub
  (1 : Int)))).mul (4 : Nat)).add (0 : Nat)) (List.flatMap Ec.f s) = some (AV.int IntKind.i64 x) ∧ idxOk i s.length ∧ ∃ (x_16 : Int), nth (((natOf i).mul (4 :
  Nat)).add (0 : Nat)) (List.flatMap Ec.f s) = some (AV.int IntKind.i64 x_16) ∧ ifp (!leInt x x_16) (True ∧ True ∧ True ∧ True ∧ True ∧ True ∧ True ∧ True ∧ True
  ∧ True ∧ True ∧ True ∧ True ∧ AV.bool false = AV.bool false ∧ true = true ∧ R2 ((l, n, s, (), (), i, ()), M, ((), [], ()), (), ()) ((), ()) ()) (True ∧ True ∧
  True ∧ True ∧ True ∧ True ∧ True ∧ True ∧ True ∧ True ∧ True ∧ True ∧ ifp (!leInt n i) (idxOk i s.length ∧ ∃ (x : Int), nth (((natOf i).mul (4 : Nat)).add (0 :
  Nat)) (List.flatMap Ec.f s) = some (AV.int IntKind.i64 x) ∧ (2 : Nat) ≤ (2 : Nat) ∧ True ∧ True ∧ True ∧ ((∃ (l_1 : List Cd), Wk (AV.vs (List.flatMap Ec.f l)
  l.length l.length false none (4 : Nat)) (lst Ec l_1) ∧ ∃ (l : List Cd), Wk (AV.vs (List.flatMap Ec.f s) s.length s.length false none (4 : Nat)) (lst Ec l) ∧ ∃
  (m : Mp Cd Int), es'_1 = Mp.enc Kc Vi64 m ∧ c' = m.clock ∧ ∃ (l_2 : List Near), (WkL [AV.int IntKind.i64 x, AV.int IntKind.i64 (-1 : Int)] (List.flatMap En.f
  l_2) ∧ (1 : Nat) = l_2.length ∧ (2 : Nat) = (2 : Nat)) ∧ true = true ∧ N ((l_1, n, l, (), (), wrapF IntKind.i64 (i.add (1 : Int)), ()), m, ((), l_2, ()), (),
  ())) ∨ ∃ (l_1 : List Cd), Wk (AV.vs (List.flatMap Ec.f l) l.length l.length false none (4 : Nat)) (lst Ec l_1) ∧ ∃ (l : List Cd), Wk (AV.vs (List.flatMap Ec.f
  s) s.length s.length false none (4 : Nat)) (lst Ec l) ∧ ∃ (m : Mp Cd Int), es'_1 = Mp.enc Kc Vi64 m ∧ c' = m.clock ∧ False)) (True ∧ ((∃ (l_1 : List Cd), Wk
  (AV.vs (List.flatMap Ec.f l) l.length l.length false none (4 : Nat)) (lst Ec l_1) ∧ ∃ (l : List Cd), Wk (AV.vs (List.flatMap Ec.f s) s.length s.length false
  none (4 : Nat)) (lst Ec l) ∧ ∃ (m : Mp Cd Int), es'_1 = Mp.enc Kc Vi64 m ∧ c' = m.clock ∧ False) ∨ ∃ (l_1 : List Cd), Wk (AV.vs (List.flatMap Ec.f l) l.length
  l.length false none (4 : Nat)) (lst Ec l_1) ∧ ∃ (l : List Cd), Wk (AV.vs (List.flatMap Ec.f s) s.length s.length false none (4 : Nat)) (lst Ec l) ∧ ∃ (m : Mp
  Cd Int), es'_1 = Mp.enc Kc Vi64 m ∧ c' = m.clock ∧ true = true ∧ N ((l_1, n, l, (), (), wrapF IntKind.i64 (i.add (1 : Int)), ()), m, ((), [], ()), (), ())))))
  (True ∧ True ∧ True ∧ True ∧ True ∧ True ∧ True ∧ True ∧ True ∧ True ∧ ifp (!leInt n i) (idxOk i s.length ∧ ∃ (x : Int), nth (((natOf i).mul (4 : Nat)).add (0
  : Nat)) (List.flatMap Ec.f s) = some (AV.int IntKind.i64 x) ∧ (2 : Nat) ≤ (2 : Nat) ∧ True ∧ True ∧ True ∧ ((∃ (l_1 : List Cd), Wk (AV.vs (List.flatMap Ec.f l)
  l.length l.length false none (4 : Nat)) (lst Ec l_1) ∧ ∃ (l : List Cd), Wk (AV.vs (List.flatMap Ec.f s) s.length s.length false none (4 : Nat)) (lst Ec l) ∧ ∃
  (m : Mp Cd Int), es'_1 = Mp.enc Kc Vi64 m ∧ c' = m.clock ∧ ∃ (l_2 : List Near), (WkL [AV.int IntKind.i64 x, AV.int IntKind.i64 (-1 : Int)] (List.flatMap En.f
  l_2) ∧ (1 : Nat) = l_2.length ∧ (2 : Nat) = (2 : Nat)) ∧ true = true ∧ N ((l_1, n, l, (), (), wrapF IntKind.i64 (i.add (1 : Int)), ()), m, ((), l_2, ()), (),
  ())) ∨ ∃ (l_1 : List Cd), Wk (AV.vs (List.flatMap Ec.f l) l.length l.length false none (4 : Nat)) (lst Ec l_1) ∧ ∃ (l : List Cd), Wk (AV.vs (List.flatMap Ec.f
  s) s.length s.length false none (4 : Nat)) (lst Ec l) ∧ ∃ (m : Mp Cd Int), es'_1 = Mp.enc Kc Vi64 m ∧ c' = m.clock ∧ False)) (True ∧ ((∃ (l_1 : List Cd), Wk
  (AV.vs (List.flatMap Ec.f l) l.length l.length false none (4 : Nat)) (lst Ec l_1) ∧ ∃ (l : List Cd), Wk (AV.vs (List.flatMap Ec.f s) s.length s.length false
  none (4 : Nat)) (lst Ec l) ∧ ∃ (m : Mp Cd Int), es'_1 = Mp.enc Kc Vi64 m ∧ c' = m.clock ∧ False) ∨ ∃ (l_1 : List Cd), Wk (AV.vs (List.flatMap Ec.f l) l.length
  l.length false none (4 : Nat)) (lst Ec l_1) ∧ ∃ (l : List Cd), Wk (AV.vs (List.flatMap Ec.f s) s.length s.length false none (4 : Nat)) (lst Ec l) ∧ ∃ (m : Mp
  Cd Int), es'_1 = Mp.enc Kc Vi64 m ∧ c' = m.clock ∧ true = true ∧ N ((l_1, n, l, (), (), wrapF IntKind.i64 (i.add (1 : Int)), ()), m, ((), [], ()), (), ()))))))
  (True ∧ True ∧ ifp (!leInt n i) (idxOk i s.length ∧ ∃ (x : Int), nth (((natOf i).mul (4 : Nat)).add (0 : Nat)) (List.flatMap Ec.f s) = some (AV.int IntKind.i64
  x) ∧ (2 : Nat) ≤ (2 : Nat) ∧ True ∧ True ∧ True ∧ ((∃ (l_1 : List Cd), Wk (AV.vs (List.flatMap Ec.f l) l.length l.length false none (4 : Nat)) (lst Ec l_1) ∧ ∃
  (l : List Cd), Wk (AV.vs (List.flatMap Ec.f s) s.length s.length false none (4 : Nat)) (lst Ec l) ∧ ∃ (m : Mp Cd Int), es'_1 = Mp.enc Kc Vi64 m ∧ c' = m.clock
  ∧ ∃ (l_2 : List Near), (WkL [AV.int IntKind.i64 x, AV.int IntKind.i64 (-1 : Int)] (List.flatMap En.f l_2) ∧ (1 : Nat) = l_2.length ∧ (2 : Nat) = (2 : Nat)) ∧
  true = true ∧ N ((l_1, n, l, (), (), wrapF IntKind.i64 (i.add (1 : Int)), ()), m, ((), l_2, ()), (), ())) ∨ ∃ (l_1 : List Cd), Wk (AV.vs (List.flatMap Ec.f l)
  l.length l.length false none (4 : Nat)) (lst Ec l_1) ∧ ∃ (l : List Cd), Wk (AV.vs (List.flatMap Ec.f s) s.length s.length false none (4 : Nat)) (lst Ec l) ∧ ∃
  (m : Mp Cd Int), es'_1 = Mp.enc Kc Vi64 m ∧ c' = m.clock ∧ False)) (True ∧ ((∃ (l_1 : List Cd), Wk (AV.vs (List.flatMap Ec.f l) l.length l.length false none (4
  : Nat)) (lst Ec l_1) ∧ ∃ (l : List Cd), Wk (AV.vs (List.flatMap Ec.f s) s.length s.length false none (4 : Nat)) (lst Ec l) ∧ ∃ (m : Mp Cd Int), es'_1 = Mp.enc
  Kc Vi64 m ∧ c' = m.clock ∧ False) ∨ ∃ (l_1 : List Cd), Wk (AV.vs (List.flatMap Ec.f l) l.length l.length false none (4 : Nat)) (lst Ec l_1) ∧ ∃ (l : List Cd),
  Wk (AV.vs (List.flatMap Ec.f s) s.length s.length false none (4 : Nat)) (lst Ec l) ∧ ∃ (m : Mp Cd Int), es'_1 = Mp.enc Kc Vi64 m ∧ c' = m.clock ∧ true = true ∧
  N ((l_1, n, l, (), (), wrapF IntKind.i64 (i.add (1 : Int)), ()), m, ((), [], ()), (), ())))))) ((True ∧ ∃ (l_1 : List Cd), Wk (AV.vs (List.flatMap Ec.f l)
  l.length l.length false none (4 : Nat)) (lst Ec l_1) ∧ False) ∨ True ∧ ∃ (l_1 : List Cd), Wk (AV.vs (List.flatMap Ec.f l) l.length l.length false none (4 :
  Nat)) (lst Ec l_1) ∧ true = true ∧ R1 ((l, n, s, (), (), i, ()), M, ((), [], ()), (), ()) (l_1, n, (), ()) (((), (), ()), ()))) := by kernel_rfl

def roCInv : roCZ → Prop := fun ((l, (n, (s, ((), ((), (i, ())))))), (M, (((), (R, ())), ((), ())))) => ∃ q : Nat, i = q ∧ q ≤ s.length ∧ s.length ≤ 150 ∧ l.length ≤ 150 ∧ s = sortR l ∧ l.all mayC = true ∧ 0 ≤ n ∧ n ≤ s.length ∧ Left M (fun y => (l.count y : Int) - ((s.take q).count y : Int)) ∧ M.clock ≤ 150 + q ∧ R = firstR s (min q n.toNat)
def roCMu : roCZ → Nat := fun ((l, (n, (s, ((), ((), (i, ())))))), (M, (((), (R, ())), ((), ())))) => s.length - i.toNat
def roCR0 : roCZ → ((List Cd) × Int × Unit × Unit) → ((Unit × (List Near) × Unit) × Unit × Unit) → Prop := fun ((l, (n, (s, ((), ((), (i, ())))))), (M, (((), (R, ())), ((), ())))) (l2, n2, _) ((_, R2, _), _) => l2 = l ∧ n2 = n ∧ R2 = firstR s n.toNat
def roCR1 : roCZ → ((List Cd) × Int × Unit × Unit) → ((Unit × Unit × Unit) × Unit) → Prop := fun ((l, (n, (s, ((), ((), (i, ())))))), (M, (((), (R, ())), ((), ())))) (l2, n2, _) _ => l2 = l ∧ n2 = n ∧ firstR s n.toNat = []
def roCR2 : roCZ → (Unit × Unit) → (Unit) → Prop := fun ((l, (n, (s, ((), ((), (i, ())))))), (M, (((), (R, ())), ((), ())))) _ _ => False
noncomputable def roCC : LoopC := loopC 0 roCFs (roCAlts roCR0 roCR1 roCR2) roCInv

theorem roCStep : stepsOk Tryd.prog (KLX [] [] [28] [] []) 100 3 204 (loopBody Tryd.prog 3 21) 0 true roCFs (roCAlts roCR0 roCR1 roCR2) roCInv roCMu ⟨_, _, roCSl, roCBl, fun x y => (x, y)⟩ := by
  intro x y hz
  obtain ⟨l, n, s, _, _, i, _⟩ := x
  obtain ⟨M, ⟨_, R, _⟩, _, _⟩ := y
  refine (roCForm l n s i M R _ _ _ _).mpr ?_
  obtain ⟨q, rfl, hq, hxl, hl, hk, hmay, hn0, hnl, hM, hc, rfl⟩ := hz
  rw [ifp_lt]
  split
  · rename_i h
    have hql : q < s.length := by simpa using h
    have c1 := count_le (l := l) s[q]
    have c2 := count_le (l := s.take (q + 1)) s[q]
    have c3 := count_snoc hql s[q]
    have c4 : s.count s[q] ≤ l.count s[q] := by
      have := (Go.Det.Stab.sort_perm (lt := ltC) l).count_eq s[q]
      have e : ∀ y, s.count y = (Go.Det.Stab.sort ltC l).count y := fun y => by rw [hk]; rfl
      have := e s[q]
      omega
    have c5 : (s.take (q + 1)).count s[q] ≤ s.count s[q] := (List.take_sublist _ _).count_le _
    rw [if_pos rfl] at c3
    rw [List.length_take] at c2
    have e : wrapF .i64 (Int.sub ((l.count s[q] : Int) - ((s.take q).count s[q] : Int)) 1) = (l.count s[q] : Int) - ((s.take (q + 1)).count s[q] : Int) := by rw [wsub (by omega) (by omega)]; omega
    have hM2 : Left ((M.ent s[q] 0).upd s[q] (wrapF .i64 (Int.sub ((l.count s[q] : Int) - ((s.take q).count s[q] : Int)) 1))) (fun y => (l.count y : Int) - ((s.take (q + 1)).count y : Int)) :=
      left_upd hM _ _ e.symm (fun z hz => by rw [count_snoc hql, if_neg hz]; simp)
    simp only [natOf_nat]
    refine ⟨idx_ok hql, _, nth_cd0 hql, _, nth_cd1 hql, _, nth_cd2 hql, _, nth_cd3 hql, _, _, left_look hM s[q], _, _, _, _, left_ent hM s[q], _, left_st s[q] _ (by omega), trivial, ⟨⟨_, _, left_look_ent hM s[q], rfl⟩, trivial⟩, idx_ok hql, _, nth_cd0 hql, _, nth_cd1 hql, _, nth_cd2 hql, _, nth_cd3 hql, _, _, left_look hM2 s[q], ?_⟩
    rw [ifp_lt, if_neg (by omega), ifp_lt]
    split
    · rename_i hq0
      have hq1 : q - 1 < s.length := by omega
      have eq1 : wrapF .i64 (Int.sub (q : Int) 1) = ((q - 1 : Nat) : Int) := by rw [wsub (by omega) (by omega)]; omega
      have hs : ¬ ltC s[q] s[q - 1] = true := by
        have hS : Go.Det.Stab.Srt ltC s := by rw [hk]; exact sortR_srt l
        have := hS.get weakC hq1 hql (by omega)
        rw [this]; simp
      rw [ltC_iff, lowV, lowV] at hs
      simp only [eq1, natOf_nat]
      refine ⟨idx_ok hq1, _, nth_cd1 hq1, idx_ok hq1, _, nth_cd2 hq1, idx_ok hql, _, nth_cd1 hql, idx_ok hql, _, nth_cd2 hql, ?_⟩
      rw [ifp_lt, if_neg (by omega)]
      refine ⟨idx_ok hq1, _, nth_cd1 hq1, idx_ok hq1, _, nth_cd2 hq1, idx_ok hql, _, nth_cd1 hql, idx_ok hql, _, nth_cd2 hql, ?_⟩
      rw [ifp_eq]
      split
      · rename_i he
        refine ⟨idx_ok hq1, _, nth_cd0 hq1, idx_ok hql, _, nth_cd0 hql, ?_⟩
        rw [ifp_lt, if_neg (by omega)]
        refine ⟨trivial, trivial, trivial, trivial, trivial, trivial, trivial, trivial, trivial, trivial, trivial, trivial, ?_⟩
        rw [ifp_lt]
        split
        · rename_i hn
          have hm1 : min q n.toNat = q := by omega
          have hm2 : min (q + 1) n.toNat = q + 1 := by omega
          refine ⟨idx_ok hql, _, nth_cd0 hql, Nat.le_refl _, ?_⟩
          rw [ifp_pos (roomy_small (by have := first_len s (min q n.toNat); show (firstR s (min q n.toNat)).length + 1 ≤ _; omega) (by decide))]
          refine ⟨trivial, trivial, trivial, Or.inl ⟨l, Wk.refl _, s, Wk.refl _, _, rfl, Mp.ent_upd_clock _ _ _ _, firstR s (min q n.toNat) ++ [(s[q].1, -1, ())], ⟨wkl_snoc (E := En) (WkL.refl _), len_snoc, (by first | exact trivial | exact rfl)⟩, (by first | exact trivial | exact rfl), ?_⟩⟩
          rw [wsucc (by omega)]
          refine ⟨⟨q + 1, rfl, hql, hxl, hl, hk, hmay, hn0, hnl, hM2, ?_, ?_⟩, by show s.length - (q + 1) < s.length - q; omega, fun _ _ h => h, fun _ _ h => h, fun _ _ h => h, trivial⟩
          · rw [← Mp.ent_upd_clock]
            have := M.ent_clock_le s[q] 0
            omega
          · rw [hm1, hm2]; exact (first_snoc hql).symm
        · rename_i hn
          refine ⟨trivial, Or.inl ⟨l, Wk.refl _, s, Wk.refl _, _, rfl, Mp.ent_upd_clock _ _ _ _, firstR s (min q n.toNat), ⟨WkL.refl _, (by first | exact trivial | exact rfl), (by first | exact trivial | exact rfl)⟩, (by first | exact trivial | exact rfl), ?_⟩⟩
          rw [wsucc (by omega)]
          refine ⟨⟨q + 1, rfl, hql, hxl, hl, hk, hmay, hn0, hnl, hM2, ?_, ?_⟩, by show s.length - (q + 1) < s.length - q; omega, fun _ _ h => h, fun _ _ h => h, fun _ _ h => h, trivial⟩
          · rw [← Mp.ent_upd_clock]
            have := M.ent_clock_le s[q] 0
            omega
          · rw [show min q n.toNat = min (q + 1) n.toNat by omega]
      · refine ⟨trivial, trivial, trivial, trivial, trivial, trivial, trivial, trivial, trivial, trivial, ?_⟩
        rw [ifp_lt]
        split
        · rename_i hn
          have hm1 : min q n.toNat = q := by omega
          have hm2 : min (q + 1) n.toNat = q + 1 := by omega
          refine ⟨idx_ok hql, _, nth_cd0 hql, Nat.le_refl _, ?_⟩
          rw [ifp_pos (roomy_small (by have := first_len s (min q n.toNat); show (firstR s (min q n.toNat)).length + 1 ≤ _; omega) (by decide))]
          refine ⟨trivial, trivial, trivial, Or.inl ⟨l, Wk.refl _, s, Wk.refl _, _, rfl, Mp.ent_upd_clock _ _ _ _, firstR s (min q n.toNat) ++ [(s[q].1, -1, ())], ⟨wkl_snoc (E := En) (WkL.refl _), len_snoc, (by first | exact trivial | exact rfl)⟩, (by first | exact trivial | exact rfl), ?_⟩⟩
          rw [wsucc (by omega)]
          refine ⟨⟨q + 1, rfl, hql, hxl, hl, hk, hmay, hn0, hnl, hM2, ?_, ?_⟩, by show s.length - (q + 1) < s.length - q; omega, fun _ _ h => h, fun _ _ h => h, fun _ _ h => h, trivial⟩
          · rw [← Mp.ent_upd_clock]
            have := M.ent_clock_le s[q] 0
            omega
          · rw [hm1, hm2]; exact (first_snoc hql).symm
        · rename_i hn
          refine ⟨trivial, Or.inl ⟨l, Wk.refl _, s, Wk.refl _, _, rfl, Mp.ent_upd_clock _ _ _ _, firstR s (min q n.toNat), ⟨WkL.refl _, (by first | exact trivial | exact rfl), (by first | exact trivial | exact rfl)⟩, (by first | exact trivial | exact rfl), ?_⟩⟩
          rw [wsucc (by omega)]
          refine ⟨⟨q + 1, rfl, hql, hxl, hl, hk, hmay, hn0, hnl, hM2, ?_, ?_⟩, by show s.length - (q + 1) < s.length - q; omega, fun _ _ h => h, fun _ _ h => h, fun _ _ h => h, trivial⟩
          · rw [← Mp.ent_upd_clock]
            have := M.ent_clock_le s[q] 0
            omega
          · rw [show min q n.toNat = min (q + 1) n.toNat by omega]
    · refine ⟨trivial, trivial, ?_⟩
      rw [ifp_lt]
      split
      · rename_i hn
        have hm1 : min q n.toNat = q := by omega
        have hm2 : min (q + 1) n.toNat = q + 1 := by omega
        refine ⟨idx_ok hql, _, nth_cd0 hql, Nat.le_refl _, ?_⟩
        rw [ifp_pos (roomy_small (by have := first_len s (min q n.toNat); show (firstR s (min q n.toNat)).length + 1 ≤ _; omega) (by decide))]
        refine ⟨trivial, trivial, trivial, Or.inl ⟨l, Wk.refl _, s, Wk.refl _, _, rfl, Mp.ent_upd_clock _ _ _ _, firstR s (min q n.toNat) ++ [(s[q].1, -1, ())], ⟨wkl_snoc (E := En) (WkL.refl _), len_snoc, (by first | exact trivial | exact rfl)⟩, (by first | exact trivial | exact rfl), ?_⟩⟩
        rw [wsucc (by omega)]
        refine ⟨⟨q + 1, rfl, hql, hxl, hl, hk, hmay, hn0, hnl, hM2, ?_, ?_⟩, by show s.length - (q + 1) < s.length - q; omega, fun _ _ h => h, fun _ _ h => h, fun _ _ h => h, trivial⟩
        · rw [← Mp.ent_upd_clock]
          have := M.ent_clock_le s[q] 0
          omega
        · rw [hm1, hm2]; exact (first_snoc hql).symm
      · rename_i hn
        refine ⟨trivial, Or.inl ⟨l, Wk.refl _, s, Wk.refl _, _, rfl, Mp.ent_upd_clock _ _ _ _, firstR s (min q n.toNat), ⟨WkL.refl _, (by first | exact trivial | exact rfl), (by first | exact trivial | exact rfl)⟩, (by first | exact trivial | exact rfl), ?_⟩⟩
        rw [wsucc (by omega)]
        refine ⟨⟨q + 1, rfl, hql, hxl, hl, hk, hmay, hn0, hnl, hM2, ?_, ?_⟩, by show s.length - (q + 1) < s.length - q; omega, fun _ _ h => h, fun _ _ h => h, fun _ _ h => h, trivial⟩
        · rw [← Mp.ent_upd_clock]
          have := M.ent_clock_le s[q] 0
          omega
        · rw [show min q n.toNat = min (q + 1) n.toNat by omega]
  · rename_i h
    have hql : ¬ q < s.length := by simpa using h
    have hm : min q n.toNat = n.toNat := by omega
    refine Or.inl ⟨trivial, l, Wk.refl _, firstR s (min q n.toNat), ⟨WkL.refl _, (by first | exact trivial | exact rfl), (by first | exact trivial | exact rfl)⟩, (by first | exact trivial | exact rfl), rfl, rfl, ?_⟩
    show firstR s (min q n.toNat) = firstR s n.toNat
    rw [hm]
theorem roCStep0 : stepsOk Tryd.prog (KLX [] [] [28] [] []) 100 3 204 (loopBody Tryd.prog 3 21) 0 true roCFs (roCAlts roCR0 roCR1 roCR2) roCInv roCMu ⟨_, _, roCSl0, roCBl0, roCZ0⟩ := by
  intro x y hz
  obtain ⟨l, n, s, _, _, i, _⟩ := x
  obtain ⟨M, ⟨_, _, _⟩, _⟩ := y
  refine (roCForm0 l n s i M _ _ _ _).mpr ?_
  obtain ⟨q, rfl, hq, hxl, hl, hk, hmay, hn0, hnl, hM, hc, hR0⟩ := hz
  rw [ifp_lt]
  split
  · rename_i h
    have hql : q < s.length := by simpa using h
    have c1 := count_le (l := l) s[q]
    have c2 := count_le (l := s.take (q + 1)) s[q]
    have c3 := count_snoc hql s[q]
    have c4 : s.count s[q] ≤ l.count s[q] := by
      have := (Go.Det.Stab.sort_perm (lt := ltC) l).count_eq s[q]
      have e : ∀ y, s.count y = (Go.Det.Stab.sort ltC l).count y := fun y => by rw [hk]; rfl
      have := e s[q]
      omega
    have c5 : (s.take (q + 1)).count s[q] ≤ s.count s[q] := (List.take_sublist _ _).count_le _
    rw [if_pos rfl] at c3
    rw [List.length_take] at c2
    have e : wrapF .i64 (Int.sub ((l.count s[q] : Int) - ((s.take q).count s[q] : Int)) 1) = (l.count s[q] : Int) - ((s.take (q + 1)).count s[q] : Int) := by rw [wsub (by omega) (by omega)]; omega
    have hM2 : Left ((M.ent s[q] 0).upd s[q] (wrapF .i64 (Int.sub ((l.count s[q] : Int) - ((s.take q).count s[q] : Int)) 1))) (fun y => (l.count y : Int) - ((s.take (q + 1)).count y : Int)) :=
      left_upd hM _ _ e.symm (fun z hz => by rw [count_snoc hql, if_neg hz]; simp)
    simp only [natOf_nat]
    refine ⟨idx_ok hql, _, nth_cd0 hql, _, nth_cd1 hql, _, nth_cd2 hql, _, nth_cd3 hql, _, _, left_look hM s[q], _, _, _, _, left_ent hM s[q], _, left_st s[q] _ (by omega), trivial, ⟨⟨_, _, left_look_ent hM s[q], rfl⟩, trivial⟩, idx_ok hql, _, nth_cd0 hql, _, nth_cd1 hql, _, nth_cd2 hql, _, nth_cd3 hql, _, _, left_look hM2 s[q], ?_⟩
    rw [ifp_lt, if_neg (by omega), ifp_lt]
    split
    · rename_i hq0
      have hq1 : q - 1 < s.length := by omega
      have eq1 : wrapF .i64 (Int.sub (q : Int) 1) = ((q - 1 : Nat) : Int) := by rw [wsub (by omega) (by omega)]; omega
      have hs : ¬ ltC s[q] s[q - 1] = true := by
        have hS : Go.Det.Stab.Srt ltC s := by rw [hk]; exact sortR_srt l
        have := hS.get weakC hq1 hql (by omega)
        rw [this]; simp
      rw [ltC_iff, lowV, lowV] at hs
      simp only [eq1, natOf_nat]
      refine ⟨idx_ok hq1, _, nth_cd1 hq1, idx_ok hq1, _, nth_cd2 hq1, idx_ok hql, _, nth_cd1 hql, idx_ok hql, _, nth_cd2 hql, ?_⟩
      rw [ifp_lt, if_neg (by omega)]
      refine ⟨idx_ok hq1, _, nth_cd1 hq1, idx_ok hq1, _, nth_cd2 hq1, idx_ok hql, _, nth_cd1 hql, idx_ok hql, _, nth_cd2 hql, ?_⟩
      rw [ifp_eq]
      split
      · rename_i he
        refine ⟨idx_ok hq1, _, nth_cd0 hq1, idx_ok hql, _, nth_cd0 hql, ?_⟩
        rw [ifp_lt, if_neg (by omega)]
        refine ⟨trivial, trivial, trivial, trivial, trivial, trivial, trivial, trivial, trivial, trivial, trivial, trivial, ?_⟩
        rw [ifp_lt]
        split
        · rename_i hn
          have hm1 : min q n.toNat = q := by omega
          have hm2 : min (q + 1) n.toNat = q + 1 := by omega
          refine ⟨idx_ok hql, _, nth_cd0 hql, Nat.le_refl _, trivial, trivial, trivial, Or.inl ⟨l, Wk.refl _, s, Wk.refl _, _, rfl, Mp.ent_upd_clock _ _ _ _, [(s[q].1, -1, ())], ⟨wkl_one (E := En) (WkL.refl _), (by first | exact trivial | exact rfl), (by first | exact trivial | exact rfl)⟩, (by first | exact trivial | exact rfl), ?_⟩⟩
          rw [wsucc (by omega)]
          refine ⟨⟨q + 1, rfl, hql, hxl, hl, hk, hmay, hn0, hnl, hM2, ?_, ?_⟩, by show s.length - (q + 1) < s.length - q; omega, fun _ _ h => h, fun _ _ h => h, fun _ _ h => h, trivial⟩
          · rw [← Mp.ent_upd_clock]
            have := M.ent_clock_le s[q] 0
            omega
          · rw [hm2, first_snoc hql, show firstR s q = [] by rw [hm1] at hR0; exact hR0.symm]; rfl
        · rename_i hn
          refine ⟨trivial, Or.inr ⟨l, Wk.refl _, s, Wk.refl _, _, rfl, Mp.ent_upd_clock _ _ _ _, (by first | exact trivial | exact rfl), ?_⟩⟩
          rw [wsucc (by omega)]
          refine ⟨⟨q + 1, rfl, hql, hxl, hl, hk, hmay, hn0, hnl, hM2, ?_, ?_⟩, by show s.length - (q + 1) < s.length - q; omega, fun _ _ h => h, fun _ _ h => h, fun _ _ h => h, trivial⟩
          · rw [← Mp.ent_upd_clock]
            have := M.ent_clock_le s[q] 0
            omega
          · rw [show min (q + 1) n.toNat = min q n.toNat by omega]; exact hR0
      · refine ⟨trivial, trivial, trivial, trivial, trivial, trivial, trivial, trivial, trivial, trivial, ?_⟩
        rw [ifp_lt]
        split
        · rename_i hn
          have hm1 : min q n.toNat = q := by omega
          have hm2 : min (q + 1) n.toNat = q + 1 := by omega
          refine ⟨idx_ok hql, _, nth_cd0 hql, Nat.le_refl _, trivial, trivial, trivial, Or.inl ⟨l, Wk.refl _, s, Wk.refl _, _, rfl, Mp.ent_upd_clock _ _ _ _, [(s[q].1, -1, ())], ⟨wkl_one (E := En) (WkL.refl _), (by first | exact trivial | exact rfl), (by first | exact trivial | exact rfl)⟩, (by first | exact trivial | exact rfl), ?_⟩⟩
          rw [wsucc (by omega)]
          refine ⟨⟨q + 1, rfl, hql, hxl, hl, hk, hmay, hn0, hnl, hM2, ?_, ?_⟩, by show s.length - (q + 1) < s.length - q; omega, fun _ _ h => h, fun _ _ h => h, fun _ _ h => h, trivial⟩
          · rw [← Mp.ent_upd_clock]
            have := M.ent_clock_le s[q] 0
            omega
          · rw [hm2, first_snoc hql, show firstR s q = [] by rw [hm1] at hR0; exact hR0.symm]; rfl
        · rename_i hn
          refine ⟨trivial, Or.inr ⟨l, Wk.refl _, s, Wk.refl _, _, rfl, Mp.ent_upd_clock _ _ _ _, (by first | exact trivial | exact rfl), ?_⟩⟩
          rw [wsucc (by omega)]
          refine ⟨⟨q + 1, rfl, hql, hxl, hl, hk, hmay, hn0, hnl, hM2, ?_, ?_⟩, by show s.length - (q + 1) < s.length - q; omega, fun _ _ h => h, fun _ _ h => h, fun _ _ h => h, trivial⟩
          · rw [← Mp.ent_upd_clock]
            have := M.ent_clock_le s[q] 0
            omega
          · rw [show min (q + 1) n.toNat = min q n.toNat by omega]; exact hR0
    · refine ⟨trivial, trivial, ?_⟩
      rw [ifp_lt]
      split
      · rename_i hn
        have hm1 : min q n.toNat = q := by omega
        have hm2 : min (q + 1) n.toNat = q + 1 := by omega
        refine ⟨idx_ok hql, _, nth_cd0 hql, Nat.le_refl _, trivial, trivial, trivial, Or.inl ⟨l, Wk.refl _, s, Wk.refl _, _, rfl, Mp.ent_upd_clock _ _ _ _, [(s[q].1, -1, ())], ⟨wkl_one (E := En) (WkL.refl _), (by first | exact trivial | exact rfl), (by first | exact trivial | exact rfl)⟩, (by first | exact trivial | exact rfl), ?_⟩⟩
        rw [wsucc (by omega)]
        refine ⟨⟨q + 1, rfl, hql, hxl, hl, hk, hmay, hn0, hnl, hM2, ?_, ?_⟩, by show s.length - (q + 1) < s.length - q; omega, fun _ _ h => h, fun _ _ h => h, fun _ _ h => h, trivial⟩
        · rw [← Mp.ent_upd_clock]
          have := M.ent_clock_le s[q] 0
          omega
        · rw [hm2, first_snoc hql, show firstR s q = [] by rw [hm1] at hR0; exact hR0.symm]; rfl
      · rename_i hn
        refine ⟨trivial, Or.inr ⟨l, Wk.refl _, s, Wk.refl _, _, rfl, Mp.ent_upd_clock _ _ _ _, (by first | exact trivial | exact rfl), ?_⟩⟩
        rw [wsucc (by omega)]
        refine ⟨⟨q + 1, rfl, hql, hxl, hl, hk, hmay, hn0, hnl, hM2, ?_, ?_⟩, by show s.length - (q + 1) < s.length - q; omega, fun _ _ h => h, fun _ _ h => h, fun _ _ h => h, trivial⟩
        · rw [← Mp.ent_upd_clock]
          have := M.ent_clock_le s[q] 0
          omega
        · rw [show min (q + 1) n.toNat = min q n.toNat by omega]; exact hR0
  · rename_i h
    have hql : ¬ q < s.length := by simpa using h
    have hm : min q n.toNat = n.toNat := by omega
    exact Or.inr ⟨trivial, l, Wk.refl _, (by first | exact trivial | exact rfl), rfl, rfl, by rw [← hm]; exact hR0.symm⟩
theorem roCOk : LoopOk Tryd.prog 3 204 (.loop (loopBody Tryd.prog 3 21)) (roCC) := loop_ok roCMu  mixed (KLX_ok (cc_nil)) rfl (steps_cons roCStep (steps_cons roCStep0 (steps_nil)))

/-! The law RerankOrders. -/
noncomputable def rerankOrdersT : Tel ((List Cd) × Int × Unit) := .cons 0 (.lst Ec) (.cons 1 (.int .i64) (.nil))
abbrev rerankOrdersShapes : List Sh := [.slice (.fcons (.int .i64) (.fcons (.int .i64) (.fcons (.int .i64) (.fcons (.int .i64) .fnil)))), .int .i64]

theorem rerankOrdersFn (gl : Tr (List AV)) (l : List Cd) (n : Int) : (callW Tryd.prog (runW Tryd.prog (KLX [(4, livesG gl), (8, pickK), (6, ownCK), (5, ordK), (7, sameCMK), (9, leanK)] [(3, [(6, roAC), (15, roBC), (21, roCC)])] [28] [(3, [11])] []) 300) 3 (rerankOrdersT.cells id (l, (n, ()))) (stBg true gl) (fun v _ => yesQ v)) =
  ( gl = gl ∧ true = true ∧ True ∧ (∀ (c : Unit × Unit) (d : Unit), True → ifp (!leInt (Int.ofNat l.length) (60 : Int)) True (LoopOk Tryd.prog (3 : FuncId) (204 :
  Nat) (loopBody Tryd.prog (3 : FuncId) (6 : Nat)).loop roAC ∧ True ∧ True ∧ ∃ (l_1 : List Cd), Wk (AV.vs (List.flatMap Ec.f l) l.length l.length false none (4 :
  Nat)) (lst Ec l_1) ∧ true = true ∧ roAInv ((l_1, n, (0 : Int), ()), ()) ∧ (∀ (c : List Cd × Int × Unit) (d : Unit), roAR0 ((l_1, n, (0 : Int), ()), ()) c d → ∃
  (l : List Cd), Wk (AV.vs (List.flatMap Ec.f c.1) c.1.length c.1.length false none (4 : Nat)) (lst Ec l) ∧ ownCPre (l, ()) ∧ ∃ (l_2 : List Cd), Wk (AV.vs
  (List.flatMap Ec.f l) l.length l.length false none (4 : Nat)) (lst Ec l_2) ∧ ordPre (l_2, ()) ∧ Int.ofNat (ordC l_2).length = Int.ofNat c.1.length ∧ ∃ (l :
  List Cd), Wk (AV.vs (List.flatMap Ec.f (ordC l_2)) (ordC l_2).length (ordC l_2).length false none (4 : Nat)) (lst Ec l) ∧ ordPre (l, ()) ∧ ∃ (l_3 : List Cd),
  Wk (AV.vs (List.flatMap Ec.f (ordC l)) (ordC l).length (ordC l).length false none (4 : Nat)) (lst Ec l_3) ∧ ∃ (l : List Cd), Wk (AV.vs (List.flatMap Ec.f (ordC
  l_2)) (ordC l_2).length (ordC l_2).length false none (4 : Nat)) (lst Ec l) ∧ sameCMPre (l_3, l, ()) ∧ LoopOk Tryd.prog (3 : FuncId) (204 : Nat) (loopBody
  Tryd.prog (3 : FuncId) (15 : Nat)).loop roBC ∧ True ∧ True ∧ ∃ (l : List Cd), Wk (AV.vs (List.flatMap Ec.f c.1) c.1.length c.1.length false none (4 : Nat))
  (lst Ec l) ∧ ∃ (l_4 : List Cd), Wk (AV.vs (List.flatMap Ec.f (ordC l_2)) (ordC l_2).length (ordC l_2).length false none (4 : Nat)) (lst Ec l_4) ∧ ∃ (m : Mp Cd
  Int), [] = Mp.enc Kc Vi64 m ∧ (0 : Nat) = m.clock ∧ true = true ∧ roBInv ((l, c.2.1, l_4, (), (0 : Int), ()), m, ()) ∧ (∀ (c_1 : List Cd × Int × List Cd × Unit
  × Unit) (d : Mp Cd Int × Unit), roBR0 ((l, c.2.1, l_4, (), (0 : Int), ()), m, ()) c_1 d → pickPre (c_1.2.1, wrapF IntKind.i64 ((Int.ofNat c_1.1.length).add (1
  : Int)), ()) ∧ LoopOk Tryd.prog (3 : FuncId) (204 : Nat) (loopBody Tryd.prog (3 : FuncId) (21 : Nat)).loop roCC ∧ True ∧ True ∧ ((∃ (l : List Cd), Wk (AV.vs
  (List.flatMap Ec.f c_1.1) c_1.1.length c_1.1.length false none (4 : Nat)) (lst Ec l) ∧ ∃ (l : List Cd), Wk (AV.vs (List.flatMap Ec.f c_1.2.2.1)
  c_1.2.2.1.length c_1.2.2.1.length false none (4 : Nat)) (lst Ec l) ∧ ∃ (m : Mp Cd Int), Mp.enc Kc Vi64 d.1 = Mp.enc Kc Vi64 m ∧ d.1.clock = m.clock ∧ False) ∨
  ∃ (l : List Cd), Wk (AV.vs (List.flatMap Ec.f c_1.1) c_1.1.length c_1.1.length false none (4 : Nat)) (lst Ec l) ∧ ∃ (l_5 : List Cd), Wk (AV.vs (List.flatMap
  Ec.f c_1.2.2.1) c_1.2.2.1.length c_1.2.2.1.length false none (4 : Nat)) (lst Ec l_5) ∧ ∃ (m : Mp Cd Int), Mp.enc Kc Vi64 d.1 = Mp.enc Kc Vi64 m ∧ d.1.clock =
  m.clock ∧ true = true ∧ roCInv ((l, pickV c_1.2.1 (wrapF IntKind.i64 ((Int.ofNat c_1.1.length).add (1 : Int))), l_5, (), (), (0 : Int), ()), m, ((), [], ()),
  (), ()) ∧ (∀ (c : List Cd × Int × Unit × Unit) (d : (Unit × List Near × Unit) × Unit × Unit), roCR0 ((l, pickV c_1.2.1 (wrapF IntKind.i64 ((Int.ofNat
  c_1.1.length).add (1 : Int))), l_5, (), (), (0 : Int), ()), m, ((), [], ()), (), ()) c d → ∃ (l : List Cd), Wk (AV.vs (List.flatMap Ec.f c.1) c.1.length
  c.1.length false none (4 : Nat)) (lst Ec l) ∧ ∃ (a : Exa), WkL [AV.nilSlice, AV.vs (List.flatMap En.f d.1.2.1) d.1.2.1.length d.1.2.1.length false (some (4 :
  Nat)) (2 : Nat)] (Ex.f a) ∧ leanPre (l, a, c.2.1, ()) ∧ ifp (leanV l a.snd.fst c.2.1) True False) ∧ (∀ (c : List Cd × Int × Unit × Unit) (d : (Unit × Unit ×
  Unit) × Unit), roCR1 ((l, pickV c_1.2.1 (wrapF IntKind.i64 ((Int.ofNat c_1.1.length).add (1 : Int))), l_5, (), (), (0 : Int), ()), m, ((), [], ()), (), ()) c d
  → ∃ (l : List Cd), Wk (AV.vs (List.flatMap Ec.f c.1) c.1.length c.1.length false none (4 : Nat)) (lst Ec l) ∧ ∃ (a : Exa), WkL [AV.nilSlice, AV.nilSlice] (Ex.f
  a) ∧ leanPre (l, a, c.2.1, ()) ∧ ifp (leanV l a.snd.fst c.2.1) True False) ∧ (∀ (c : Unit × Unit) (d : Unit), roCR2 ((l, pickV c_1.2.1 (wrapF IntKind.i64
  ((Int.ofNat c_1.1.length).add (1 : Int))), l_5, (), (), (0 : Int), ()), m, ((), [], ()), (), ()) c d → False) ∧ True)) ∧ True) ∧ (∀ (c : Unit × Unit) (d :
  Unit), roAR1 ((l_1, n, (0 : Int), ()), ()) c d → True) ∧ True)) ∧ True) := by kernel_rfl

theorem rerankOrdersHolds {gl : Tr (List AV)} (hg : GlOk gl) (l : List Cd) (n : Int) (hl : Sh.plOk (.slice (.fcons (.int .i64) (.fcons (.int .i64) (.fcons (.int .i64) (.fcons (.int .i64) .fnil))))) l) (hn : Sh.plOk (.int .i64) n) : callW Tryd.prog (runW Tryd.prog (KLX [(4, livesG gl), (8, pickK), (6, ownCK), (5, ordK), (7, sameCMK), (9, leanK)] [(3, [(6, roAC), (15, roBC), (21, roCC)])] [28] [(3, [11])] []) 300) 3 (rerankOrdersT.cells id (l, (n, ()))) (stBg true gl) (fun v _ => yesQ v) := by
  refine (rerankOrdersFn gl l n).mpr ?_
  refine ⟨rfl, rfl, trivial, fun _ _ _ => ?_, trivial⟩
  rw [ifp_lt]
  split
  · trivial
  · rename_i hlen
    have hl60 : l.length ≤ 60 := by simp only [Int.ofNat_eq_natCast] at hlen; omega
    obtain ⟨n1, n2⟩ := wf_i64 hn
    refine ⟨roAOk, trivial, trivial, l, Wk.refl _, rfl, ⟨0, rfl, Nat.zero_le _, hl60, rfl⟩, fun c d hr => ?_, fun _ _ _ => trivial, trivial⟩
    obtain ⟨l2, n3, _⟩ := c
    obtain ⟨h1, h2, hmay⟩ := hr
    obtain rfl : l = l2 := h1.symm
    obtain rfl : n = n3 := h2.symm
    have ho := ord_may hmay
    have hsl := sortR_len l
    have hso : sortR (sortR l) = sortR l := Go.Det.Stab.sort_id (sortR_srt l)
    have ho2 : ordC (sortR l) = sortR l := by rw [ord_may (sortR_may hmay), hso]
    refine ⟨l, Wk.refl _, by show l.length ≤ 1000000; omega, l, Wk.refl _, by show l.length ≤ 1000000; omega, ?_⟩
    rw [ho]
    refine ⟨by rw [hsl], sortR l, Wk.refl _, by show (sortR l).length ≤ 1000000; omega, ordC (sortR l), Wk.refl _, sortR l, Wk.refl _, ⟨by show (ordC (sortR l)).length ≤ 1000000; rw [ho2]; omega, by rw [ho2]; simp⟩, roBOk, trivial, trivial, l, Wk.refl _, sortR l, Wk.refl _, Mp.empty, rfl, rfl, rfl, ⟨0, rfl, Nat.zero_le _, by omega, fun y => by simp [Mp.empty_find], Nat.zero_le _⟩, fun c1 d1 hr1 => ?_, trivial⟩
    obtain ⟨l4, n4, s4, _, _⟩ := c1
    obtain ⟨M, _⟩ := d1
    obtain ⟨g1, g2, g3, _, hM, hc⟩ := hr1
    obtain rfl : l = l4 := g1.symm
    obtain rfl : n = n4 := g2.symm
    obtain rfl : s4 = sortR l := g3
    have e1 : wrapF .i64 (Int.add (Int.ofNat l.length) 1) = ((l.length + 1 : Nat) : Int) := wsucc (by omega)
    obtain ⟨p1, p2⟩ := pick_range (n := n) (m := ((l.length + 1 : Nat) : Int)) (by omega)
    simp only [e1]
    refine ⟨⟨n1, n2, by omega⟩, roCOk, trivial, trivial, Or.inr ⟨l, Wk.refl _, sortR l, Wk.refl _, M, rfl, rfl, (by first | exact trivial | exact rfl), ⟨0, rfl, Nat.zero_le _, by omega, by omega, rfl, hmay, p1, by omega, fun y => by rw [hM y]; simp, by omega, by simp [firstR]⟩, fun c2 d2 hr2 => ?_, fun c2 d2 hr2 => ?_, fun _ _ h => h, trivial⟩⟩
    · obtain ⟨l5, n5, _, _⟩ := c2
      obtain ⟨⟨_, R2, _⟩, _, _⟩ := d2
      obtain ⟨k1, k2, k3⟩ := hr2
      obtain rfl : l = l5 := k1.symm
      obtain rfl : n5 = pickV n ((l.length + 1 : Nat) : Int) := k2
      obtain rfl : R2 = firstR (sortR l) (pickV n ((l.length + 1 : Nat) : Int)).toNat := k3
      refine ⟨l, Wk.refl _, ([], firstR (sortR l) (pickV n ((l.length + 1 : Nat) : Int)).toNat, ()), ⟨wk_nil _, wk_of_own, trivial⟩, by show l.length ≤ 1000000; omega, ?_⟩
      rw [ifp_pos (lean_ok hmay p1)]; trivial
    · obtain ⟨l5, n5, _, _⟩ := c2
      obtain ⟨k1, k2, k3⟩ := hr2
      obtain rfl : l = l5 := k1.symm
      obtain rfl : n5 = pickV n ((l.length + 1 : Nat) : Int) := k2
      have k3' : firstR (sortR l) (pickV n ((l.length + 1 : Nat) : Int)).toNat = [] := k3
      refine ⟨l, Wk.refl _, ([], [], ()), ⟨wk_nil _, wk_nil _, trivial⟩, by show l.length ≤ 1000000; omega, ?_⟩
      have hk := lean_ok (k := pickV n ((l.length + 1 : Nat) : Int)) hmay p1
      rw [k3'] at hk
      rw [ifp_pos hk]; trivial
theorem rerankOrdersTrue {gl : Tr (List AV)} (hg : GlOk gl) (y : ShPls rerankOrdersShapes) (hy : ShPlOks rerankOrdersShapes y) : callW Tryd.prog (runW Tryd.prog (KLX [(4, livesG gl), (8, pickK), (6, ownCK), (5, ordK), (7, sameCMK), (9, leanK)] [(3, [(6, roAC), (15, roBC), (21, roCC)])] [28] [(3, [11])] []) 300) 3 (ShPlAvs rerankOrdersShapes y) (stBg true gl) (fun v _ => yesQ v) :=
  rerankOrdersHolds hg y.1 y.2.1 hy.1 hy.2.1
theorem rerankOrdersCalls {x : ShVs rerankOrdersShapes} (hx : ShOks rerankOrdersShapes x) {W : World} {args : Array Value} (ht : ∀ (i : Nat) (v : Value), (tab.map fun z => Value.int .u8 z)[i]? = some v → W.cell? ⟨0, i, none⟩ = some v) (h : VRs (frozenAll W) (ShAvs rerankOrdersShapes x) args.toList) : Calls Tryd.prog 3 args W fun e w' => e = .returned (.bool true) ∧ Below W.heap.size W w' :=
  have hg : GlOk (glT 0 .u8 tab) := glT_is
  law_plain_g mixed (KLX_ok (cc_cons (lives21Cc hg) (cc_cons pickCc (cc_cons ownCCc (cc_cons ordCc (cc_cons sameCMCc (cc_cons leanCc (cc_nil)))))))) (rerankOrdersTrue hg) hx ht h

end Go.Proofs.YteehkdejkemnmabDoor
