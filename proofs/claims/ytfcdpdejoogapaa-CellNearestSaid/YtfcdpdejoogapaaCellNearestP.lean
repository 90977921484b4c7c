/- Forms and contracts, printed by gx.py. -/
import Derived.Test.YtfcdpdejoogapaaRows
import Derived.Test.YtfcdpdejoogapaaDvUse
import Derived.Test.YtfcdpdejoogapaaDvArg
import Derived.ProofKit
import Derived.Test.YtfcdpdejoogapaaBase
import Derived.Test.YtfcdpdejoogapaaCell
import Derived.Test.YtfcdpdejoogapaaCellB
import Derived.Test.YtfcdpdejoogapaaSort
import Derived.Test.YtfcdpdejoogapaaDvSort
import Derived.Test.YtfcdpdejoogapaaDvHp
import Derived.Test.YtfcdpdejoogapaaRank
import Derived.Test.YtfcdpdejoogapaaDvStab
import Derived.Test.YtfcdpdejoogapaaCellE
namespace Go.Proofs.Ytfcdpdejoogapaa
open Go.Det Go.RowKit
set_option linter.unusedVariables false
set_option linter.unusedSimpArgs false
set_option maxRecDepth 100000
/-! The loop sameI of wayfinder/wayfinderkit.Same[int]. -/
abbrev sameIZ := ((List Int) × (List Int) × Int × Unit) × (Unit)
noncomputable def sameISl : Tel ((List Int) × (List Int) × Int × Unit) := .cons 0 (.lst Ei64) (.cons 1 (.lst Ei64) (.cons 5 (.int .i64) (.nil)))
noncomputable def sameIBl : BTel (Unit) := .nil
noncomputable def sameIFs : List (LForm sameIZ) := [⟨_, _, sameISl, sameIBl, fun x y => (x, y)⟩]
noncomputable def sameIAlts (R0 : sameIZ → (Unit) → (Unit) → Prop) (R1 : sameIZ → (Bool × Unit) → (Unit) → Prop) : List (Alt sameIZ) := [⟨.exit 0, Unit, Unit, .nil, .nil, R0⟩, ⟨.ret, Bool × Unit, Unit, .cons 4 (.bool) (.nil), .nil, R1⟩]

theorem sameIForm (a : List Int) (b : List Int) (i : Int) (N : sameIZ → Prop) (R0 : sameIZ → (Unit) → (Unit) → Prop) (R1 : sameIZ → (Bool × Unit) → (Unit) → Prop) : ((runW Try.prog (KL [] []) 100).code none 32 26 (loopBody Try.prog 32 4) (mkT (sameISl.av id (a, (b, (i, ()))))) [] (stL false (sameIBl.obs id ())) (postL 0 sameIFs (sameIAlts R0 R1) ((a, (b, (i, ()))), ()) N)) =
  ( ifp (!leInt (Int.ofNat a.length) i) (idxOk i a.length ∧ ∃ (x : Int), nth ((natOf i).mul (1 : Nat)) (List.flatMap Ei64.f a) = some (AV.int IntKind.i64 x) ∧ idxOk
  i b.length ∧ ∃ (x_1 : Int), nth ((natOf i).mul (1 : Nat)) (List.flatMap Ei64.f b) = some (AV.int IntKind.i64 x_1) ∧ ifp (!eqInt x x_1) (True ∧ True ∧ True ∧
  true = true ∧ R1 ((a, b, i, ()), ()) (false, ()) ()) (True ∧ True ∧ True ∧ ∃ (l : List Int), Wk (AV.vs (List.flatMap Ei64.f a) a.length a.length false none (1
  : Nat)) (lst Ei64 l) ∧ ∃ (l_1 : List Int), Wk (AV.vs (List.flatMap Ei64.f b) b.length b.length false none (1 : Nat)) (lst Ei64 l_1) ∧ true = true ∧ N ((l, l_1,
  wrapF IntKind.i64 (i.add (1 : Int)), ()), ()))) (True ∧ true = true ∧ R0 ((a, b, i, ()), ()) () ())) := by kernel_rfl

def sameIInv : sameIZ → Prop := fun ((a, (b, (i, ()))), ()) => ∃ k : Nat, i = k ∧ k ≤ a.length ∧ a.length < 9223372036854775807 ∧ a.length = b.length ∧ a.take k = b.take k
def sameIMu : sameIZ → Nat := fun ((a, (b, (i, ()))), ()) => a.length - i.toNat
def sameIR0 : sameIZ → (Unit) → (Unit) → Prop := fun ((a, (b, (i, ()))), ()) _ _ => a = b
def sameIR1 : sameIZ → (Bool × Unit) → (Unit) → Prop := fun ((a, (b, (i, ()))), ()) (r, _) _ => r = false ∧ a ≠ b
noncomputable def sameIC : LoopC := loopC 0 sameIFs (sameIAlts sameIR0 sameIR1) sameIInv

theorem sameIStep : stepsOk Try.prog (KL [] []) 100 32 26 (loopBody Try.prog 32 4) 0 false sameIFs (sameIAlts sameIR0 sameIR1) sameIInv sameIMu ⟨_, _, sameISl, sameIBl, fun x y => (x, y)⟩ := by
  intro x y hz
  obtain ⟨a, b, i, _⟩ := x
  obtain _ := y
  refine (sameIForm a b i _ _ _).mpr ?_
  obtain ⟨k, rfl, hk, hl, hab, ht⟩ := hz
  rw [ifp_lt]
  simp only [natOf_nat]
  split
  · rename_i h
    have hka : k < a.length := by simpa using h
    have hkb : k < b.length := by omega
    repeat (first
      | (refine ⟨Nat.le_refl _, ?_⟩)
      | (rw [ifp_pos (roomy_small (by simp only [Nat.add_eq]; omega) (by decide))])
      | (refine ⟨trivial, ?_⟩)
      | (refine ⟨(rfl : true = true), ?_⟩)
      | (refine ⟨idx_ok (by omega), ?_⟩)
      | (refine ⟨idx_ok0 (by omega), ?_⟩)
      | (refine ⟨_, nth_int (by omega), ?_⟩)
      | (refine ⟨_, _, _, _, _, _, nth_lst (by omega), ?_⟩)
      | (refine ⟨_, _, _, _, _, _, nth_lst0 (by omega), ?_⟩)
      | (refine ⟨_, Wk.refl _, ?_⟩)
      | (rw [ifp_pos rfl])
      | (refine ⟨(rfl : (_ : List Nat) = _), ?_⟩)
      | (refine ⟨(rfl : (_ : Code) = _), ?_⟩))
    rw [ifp_ne]
    split
    · rename_i h2
      repeat (first
        | (refine ⟨Nat.le_refl _, ?_⟩)
        | (rw [ifp_pos (roomy_small (by simp only [Nat.add_eq]; omega) (by decide))])
        | (refine ⟨trivial, ?_⟩)
        | (refine ⟨(rfl : true = true), ?_⟩)
        | (refine ⟨idx_ok (by omega), ?_⟩)
        | (refine ⟨idx_ok0 (by omega), ?_⟩)
        | (refine ⟨_, nth_int (by omega), ?_⟩)
        | (refine ⟨_, _, _, _, _, _, nth_lst (by omega), ?_⟩)
        | (refine ⟨_, _, _, _, _, _, nth_lst0 (by omega), ?_⟩)
        | (refine ⟨_, Wk.refl _, ?_⟩)
        | (rw [ifp_pos rfl])
        | (refine ⟨(rfl : (_ : List Nat) = _), ?_⟩)
        | (refine ⟨(rfl : (_ : Code) = _), ?_⟩))
      rw [wsucc (by omega)]
      refine ⟨⟨k + 1, rfl, hka, hl, hab, ?_⟩, by show a.length - (k + 1) < a.length - k; omega, fun _ _ h => h, fun _ _ h => h, trivial⟩
      rw [← List.take_append_getElem hka, ← List.take_append_getElem hkb, ht, h2]
    · rename_i h2
      repeat (first
        | (refine ⟨Nat.le_refl _, ?_⟩)
        | (rw [ifp_pos (roomy_small (by simp only [Nat.add_eq]; omega) (by decide))])
        | (refine ⟨trivial, ?_⟩)
        | (refine ⟨(rfl : true = true), ?_⟩)
        | (refine ⟨idx_ok (by omega), ?_⟩)
        | (refine ⟨idx_ok0 (by omega), ?_⟩)
        | (refine ⟨_, nth_int (by omega), ?_⟩)
        | (refine ⟨_, _, _, _, _, _, nth_lst (by omega), ?_⟩)
        | (refine ⟨_, _, _, _, _, _, nth_lst0 (by omega), ?_⟩)
        | (refine ⟨_, Wk.refl _, ?_⟩)
        | (rw [ifp_pos rfl])
        | (refine ⟨(rfl : (_ : List Nat) = _), ?_⟩)
        | (refine ⟨(rfl : (_ : Code) = _), ?_⟩))
      exact ⟨rfl, fun e => h2 (by subst e; rfl)⟩
  · rename_i h
    repeat (first
      | (refine ⟨Nat.le_refl _, ?_⟩)
      | (rw [ifp_pos (roomy_small (by simp only [Nat.add_eq]; omega) (by decide))])
      | (refine ⟨trivial, ?_⟩)
      | (refine ⟨(rfl : true = true), ?_⟩)
      | (refine ⟨idx_ok (by omega), ?_⟩)
      | (refine ⟨idx_ok0 (by omega), ?_⟩)
      | (refine ⟨_, nth_int (by omega), ?_⟩)
      | (refine ⟨_, _, _, _, _, _, nth_lst (by omega), ?_⟩)
      | (refine ⟨_, _, _, _, _, _, nth_lst0 (by omega), ?_⟩)
      | (refine ⟨_, Wk.refl _, ?_⟩)
      | (rw [ifp_pos rfl])
      | (refine ⟨(rfl : (_ : List Nat) = _), ?_⟩)
      | (refine ⟨(rfl : (_ : Code) = _), ?_⟩))
    rw [take_all (by simpa using h), take_all (by rw [← hab]; simpa using h)] at ht; exact ht
theorem sameIOk : LoopOk Try.prog 32 26 (.loop (loopBody Try.prog 32 4)) sameIC := loop_ok sameIMu mixed (KL_ok (cc_nil)) rfl (steps_cons sameIStep (steps_nil))

/-! wayfinder/wayfinderkit.Same[int] -/
noncomputable def sameIT : Tel ((List Int) × (List Int) × Unit) := .cons 0 (.lst Ei64) (.cons 1 (.lst Ei64) (.nil))

theorem sameIFn (a : List Int) (b : List Int) (Q : AV → Prop) : (callW Try.prog (runW Try.prog (KL [] [(32, [(4, sameIC)])]) 200) 32 (sameIT.cells id (a, (b, ()))) (stE false) (fun x st => frzW st x Q)) =
  ( ifp (!eqInt (Int.ofNat a.length) (Int.ofNat b.length)) (Q (AV.bool false)) (LoopOk Try.prog (32 : FuncId) (26 : Nat) (loopBody Try.prog (32 : FuncId) (4 :
  Nat)).loop sameIC ∧ True ∧ True ∧ ∃ (l : List Int), Wk (AV.vs (List.flatMap Ei64.f a) a.length a.length false none (1 : Nat)) (lst Ei64 l) ∧ ∃ (l_1 : List
  Int), Wk (AV.vs (List.flatMap Ei64.f b) b.length b.length false none (1 : Nat)) (lst Ei64 l_1) ∧ true = true ∧ sameIInv ((l, l_1, (0 : Int), ()), ()) ∧ (∀ (c d
  : Unit), sameIR0 ((l, l_1, (0 : Int), ()), ()) c d → Q (AV.bool true)) ∧ (∀ (c : Bool × Unit) (d : Unit), sameIR1 ((l, l_1, (0 : Int), ()), ()) c d → Q
  (AV.bool c.1)) ∧ True)) := by kernel_rfl

def sameIPre : (List Int) × (List Int) × Unit → Prop := fun (a, (b, ())) => a.length < 9223372036854775807
noncomputable def sameIRes : (List Int) × (List Int) × Unit → AV := fun (a, (b, ())) => .bool (decide (a = b))
noncomputable def sameIK : CallC := valC sameIT sameIPre sameIRes

theorem sameIVal (a : List Int) (b : List Int) (hp : sameIPre (a, (b, ()))) : Val Try.prog 32 (sameIT.cells id (a, (b, ()))) (sameIRes (a, (b, ()))) := by
  refine Val.ofF mixed (KL_ok (cc_nil)) (freesC rfl _) (sameIFn a b) ?_
  have hp' : a.length < 9223372036854775807 := hp
  rw [ifp_ne]
  split
  · rename_i h
    refine ⟨sameIOk, ?_⟩
    repeat (first
      | (refine ⟨Nat.le_refl _, ?_⟩)
      | (rw [ifp_pos (roomy_small (by simp only [Nat.add_eq]; omega) (by decide))])
      | (refine ⟨trivial, ?_⟩)
      | (refine ⟨(rfl : true = true), ?_⟩)
      | (refine ⟨idx_ok (by omega), ?_⟩)
      | (refine ⟨idx_ok0 (by omega), ?_⟩)
      | (refine ⟨_, nth_int (by omega), ?_⟩)
      | (refine ⟨_, _, _, _, _, _, nth_lst (by omega), ?_⟩)
      | (refine ⟨_, _, _, _, _, _, nth_lst0 (by omega), ?_⟩)
      | (refine ⟨_, Wk.refl _, ?_⟩)
      | (rw [ifp_pos rfl])
      | (refine ⟨(rfl : (_ : List Nat) = _), ?_⟩)
      | (refine ⟨(rfl : (_ : Code) = _), ?_⟩))
    refine ⟨⟨0, rfl, by omega, hp', by simp at h; omega, rfl⟩, fun _ _ hr => ?_, fun c _ hr => ?_, trivial⟩
    · exact tells_bool (by rw [decide_eq_true (show a = b from hr)])
    · obtain ⟨r, _⟩ := c
      obtain ⟨rfl, hr⟩ := hr
      exact tells_bool (by rw [decide_eq_false hr])
  · rename_i h
    exact tells_bool (by rw [decide_eq_false]; intro e; subst e; exact h rfl)
theorem sameICc : CcOk Try.prog 32 sameIK := val_ok rfl (fun ⟨a, ⟨b, _⟩⟩ h => sameIVal a b h)

def sameITPre : (List Int) × (List Int) × Unit → Prop := fun (a, (b, ())) => sameIPre (a, (b, ())) ∧ (decide (a = b)) = true
noncomputable def sameITK : CallC := valC sameIT sameITPre (fun _ => .bool true)
theorem sameITCc : CcOk Try.prog 32 sameITK := val_ok rfl (fun ⟨a, ⟨b, _⟩⟩ h => by have := sameIVal a b h.1; rw [show sameIRes _ = .bool true from congrArg AV.bool h.2] at this; exact this)

noncomputable abbrev Ki : KEnc Int := KEnc.int .i64
abbrev Vb : VEnc Bool := VEnc.bool
def OrdOk (c : List (List Int)) (v : List Int) (l : List Int) : Prop :=
  (∀ x ∈ l, 0 ≤ x ∧ x < c.length) ∧ l.Nodup ∧ ∀ i (h : i + 1 < l.length), distD (c.getD (l[i]).toNat []) v < distD (c.getD (l[i + 1]).toNat []) v ∨ distD (c.getD (l[i]).toNat []) v = distD (c.getD (l[i + 1]).toNat []) v ∧ l[i] ≤ l[i + 1]
theorem ord_ok {c : List (List Int)} {v : List Int} (h : bothV c v = 0) (n : Int) : OrdOk c v (ordL c v n) := by
  have hS : farV c v = nearSort (farL c v c.length) := by rw [farV, if_pos h]
  have hmem : ∀ x ∈ farV c v, ∃ q, ∃ hq : q < c.length, x = (distD c[q] v, (q : Int), ()) := fun x hx => by
    rw [hS] at hx; exact farL_mem ((nearSort_perm _).mem_iff.1 hx)
  have hsrt : Srt ((farV c v).take n.toNat) := by rw [hS]; exact (nearSort_srt _).sublist (List.take_sublist _ _)
  refine ⟨fun x hx => ?_, ?_, fun i hi => ?_⟩
  · obtain ⟨y, hy, rfl⟩ := List.mem_map.1 hx
    obtain ⟨q, hq, rfl⟩ := hmem y (List.mem_of_mem_take hy)
    show 0 ≤ (q : Int) ∧ (q : Int) < c.length
    omega
  · have h1 : ((farV c v).map fun x => x.2.1).Nodup := by
      rw [hS]
      refine ((nearSort_perm (farL c v c.length)).map (fun x => x.2.1)).nodup_iff.2 ?_
      rw [farL, List.map_map]
      show ((List.range c.length).map fun i : Nat => (i : Int)).Nodup
      exact List.Pairwise.map _ (fun a b hab e => hab (by omega)) List.nodup_range
    rw [ordL]
    exact h1.sublist ((List.take_sublist _ _).map _)
  · have hl : i + 1 < ((farV c v).take n.toNat).length := by rw [ordL, List.length_map] at hi; exact hi
    have e1 : (ordL c v n)[i] = (((farV c v).take n.toNat)[i]'(by omega)).2.1 := by simp [ordL]
    have e2 : (ordL c v n)[i + 1] = (((farV c v).take n.toNat)[i + 1]).2.1 := by simp [ordL]
    have hs := hsrt.get (show i < _ by omega) hl (by omega)
    obtain ⟨a, ha, ea⟩ := hmem _ (List.mem_of_mem_take (List.getElem_mem (show i < ((farV c v).take n.toNat).length by omega)))
    obtain ⟨b, hb, eb⟩ := hmem _ (List.mem_of_mem_take (List.getElem_mem hl))
    rw [e1, e2]
    rw [ea, eb] at hs ⊢
    rw [← Bool.not_eq_true, lessV_iff] at hs
    have g1 : c.getD (((a : Int)).toNat) [] = c[a] := by show c.getD a [] = _; simp [ha]
    have g2 : c.getD (((b : Int)).toNat) [] = c[b] := by show c.getD b [] = _; simp [hb]
    show distD (c.getD (a : Int).toNat []) v < distD (c.getD (b : Int).toNat []) v ∨ _ = _ ∧ (a : Int) ≤ (b : Int)
    rw [g1, g2]
    simp only at hs
    omega
theorem ord_len {c : List (List Int)} {v : List Int} (h : bothV c v = 0) {n : Int} (h0 : 0 ≤ n) : Int.ofNat (ordL c v n).length = ifb (leInt n (Int.ofNat c.length)) n (Int.ofNat c.length) := by
  rw [ifb_min h0, ordL, List.length_map, List.length_take, farV_len h]; rfl
theorem ord_take {c : List (List Int)} {v : List Int} {n m : Int} (h0 : 0 ≤ m) (hm : m ≤ n) : (ordL c v n).take (ordL c v m).length = ordL c v m := by
  rw [ordL, ordL, List.length_map, ← List.map_take, List.take_take, List.length_take]
  congr 1
  rcases Nat.le_total m.toNat (farV c v).length with q | q
  · rw [Nat.min_eq_left q, Nat.min_eq_left (by omega)]
  · rw [Nat.min_eq_right q, Nat.min_eq_left (by omega), List.take_length, List.take_of_length_le q]
def Seen (M : Mp Int Bool) (l : List Int) : Prop := ∀ y, (M.find y).getD false = decide (y ∈ l)
theorem seen_look {M : Mp Int Bool} {l : List Int} (h : Seen M l) (y : Int) : lookIs (.int .i64 y) (M.enc Ki Vb) (.bool false) (.bool (decide (y ∈ l))) (M.find y).isSome := by
  have h1 := M.look (KE := Ki) (VE := Vb) y (.bool false)
  have h2 := h y
  cases h3 : M.find y with
  | none => rw [h3] at h1 h2; rw [← h2]; exact h1
  | some v => rw [h3] at h1 h2; rw [← h2]; exact h1
theorem seen_upd {M : Mp Int Bool} {l : List Int} (h : Seen M l) (y : Int) : Seen (M.upd y true) (l ++ [y]) := by
  intro z
  rw [Mp.upd_find]
  by_cases c : z = y
  · rw [if_pos c]; simp [c]
  · rw [if_neg c, h z]; simp [c]

/-! The loop cn1 of wayfinder/wayfinderlaw13.CellNearest. -/
abbrev cn1Z := ((List (List Int)) × (List Int) × Int × Int × Int × Int × Int × Unit) × (Unit)
noncomputable def cn1Sl : Tel ((List (List Int)) × (List Int) × Int × Int × Int × Int × Int × Unit) := .cons 0 (.lst Ell) (.cons 1 (.lst Ei32) (.cons 2 (.int .i64) (.cons 3 (.int .i64) (.cons 9 (.int .i64) (.cons 10 (.int .i64) (.cons 12 (.int .i64) (.nil)))))))
noncomputable def cn1Bl : BTel (Unit) := .nil
noncomputable def cn1Fs : List (LForm cn1Z) := [⟨_, _, cn1Sl, cn1Bl, fun x y => (x, y)⟩]
noncomputable def cn1Alts (R0 : cn1Z → ((List (List Int)) × (List Int) × Int × Int × Int × Unit) → (Unit) → Prop) (R1 : cn1Z → (Unit × Unit) → (Unit) → Prop) : List (Alt cn1Z) := [⟨.exit 0, (List (List Int)) × (List Int) × Int × Int × Int × Unit, Unit, .cons 0 (.lst Ell) (.cons 1 (.lst Ei32) (.cons 2 (.int .i64) (.cons 3 (.int .i64) (.cons 9 (.int .i64) (.nil))))), .nil, R0⟩, ⟨.ret, Unit × Unit, Unit, .cons 8 (.con (.bool false) rfl) (.nil), .nil, R1⟩]

theorem cn1Form (c : List (List Int)) (v : List Int) (n : Int) (m : Int) (k : Int) (d : Int) (i : Int) (N : cn1Z → Prop) (R0 : cn1Z → ((List (List Int)) × (List Int) × Int × Int × Int × Unit) → (Unit) → Prop) (R1 : cn1Z → (Unit × Unit) → (Unit) → Prop) : ((runW Try.prog (KL [(30, rdistK)] []) 100).code none 6 246 (loopBody Try.prog 6 11) (mkT (cn1Sl.av id (c, (v, (n, (m, (k, (d, (i, ()))))))))) [] (stL false (cn1Bl.obs id ())) (postL 0 cn1Fs (cn1Alts R0 R1) ((c, (v, (n, (m, (k, (d, (i, ()))))))), ()) N)) =
  ( ifp (!leInt (Int.ofNat c.length) i) (idxOk i c.length ∧ ∃ (l' : List AV), ∃ (n_1 : Nat), ∃ (c_1 : Nat), ∃ (x : Bool), ∃ (w : Option Nat), ∃ (e : Nat), nth
  ((natOf i).mul (1 : Nat)) (List.flatMap Ell.f c) = some (AV.vs l' n_1 c_1 x w e) ∧ ∃ (l : List Int), Wk (AV.vs l' n_1 c_1 x w e) (lst Ei32 l) ∧ ∃ (l_1 : List
  Int), Wk (AV.vs (List.flatMap Ei32.f v) v.length v.length false none (1 : Nat)) (lst Ei32 l_1) ∧ rdistPre (l, l_1, ()) ∧ ifp (!eqInt (pairV l l_1) (0 : Int))
  (True ∧ AV.bool false = AV.bool false ∧ true = true ∧ R1 ((c, v, n, m, k, d, i, ()), ()) ((), ()) ()) (ifp (!leInt d (distD l l_1)) (True ∧ AV.bool false =
  AV.bool false ∧ true = true ∧ R1 ((c, v, n, m, k, d, i, ()), ()) ((), ()) ()) (ifp (!leInt k i) (ifp (eqInt (distD l l_1) d) (True ∧ AV.bool false = AV.bool
  false ∧ true = true ∧ R1 ((c, v, n, m, k, d, i, ()), ()) ((), ()) ()) (ifp (eqInt i k) (ifp (!eqInt (distD l l_1) d) (True ∧ AV.bool false = AV.bool false ∧
  true = true ∧ R1 ((c, v, n, m, k, d, i, ()), ()) ((), ()) ()) (True ∧ ∃ (l : List (List Int)), Wk (AV.vs (List.flatMap Ell.f c) c.length c.length false none (1
  : Nat)) (lst Ell l) ∧ ∃ (l_2 : List Int), Wk (AV.vs (List.flatMap Ei32.f v) v.length v.length false none (1 : Nat)) (lst Ei32 l_2) ∧ true = true ∧ N ((l, l_2,
  n, m, k, d, wrapF IntKind.i64 (i.add (1 : Int)), ()), ()))) (True ∧ ∃ (l : List (List Int)), Wk (AV.vs (List.flatMap Ell.f c) c.length c.length false none (1 :
  Nat)) (lst Ell l) ∧ ∃ (l_2 : List Int), Wk (AV.vs (List.flatMap Ei32.f v) v.length v.length false none (1 : Nat)) (lst Ei32 l_2) ∧ true = true ∧ N ((l, l_2, n,
  m, k, d, wrapF IntKind.i64 (i.add (1 : Int)), ()), ())))) (ifp (eqInt i k) (ifp (!eqInt (distD l l_1) d) (True ∧ AV.bool false = AV.bool false ∧ true = true ∧
  R1 ((c, v, n, m, k, d, i, ()), ()) ((), ()) ()) (True ∧ ∃ (l : List (List Int)), Wk (AV.vs (List.flatMap Ell.f c) c.length c.length false none (1 : Nat)) (lst
  Ell l) ∧ ∃ (l_2 : List Int), Wk (AV.vs (List.flatMap Ei32.f v) v.length v.length false none (1 : Nat)) (lst Ei32 l_2) ∧ true = true ∧ N ((l, l_2, n, m, k, d,
  wrapF IntKind.i64 (i.add (1 : Int)), ()), ()))) (True ∧ ∃ (l : List (List Int)), Wk (AV.vs (List.flatMap Ell.f c) c.length c.length false none (1 : Nat)) (lst
  Ell l) ∧ ∃ (l_2 : List Int), Wk (AV.vs (List.flatMap Ei32.f v) v.length v.length false none (1 : Nat)) (lst Ei32 l_2) ∧ true = true ∧ N ((l, l_2, n, m, k, d,
  wrapF IntKind.i64 (i.add (1 : Int)), ()), ())))))) (True ∧ ∃ (l : List (List Int)), Wk (AV.vs (List.flatMap Ell.f c) c.length c.length false none (1 : Nat))
  (lst Ell l) ∧ ∃ (l_1 : List Int), Wk (AV.vs (List.flatMap Ei32.f v) v.length v.length false none (1 : Nat)) (lst Ei32 l_1) ∧ true = true ∧ R0 ((c, v, n, m, k,
  d, i, ()), ()) (l, l_1, n, m, k, ()) ())) := by kernel_rfl

def cn1Inv : cn1Z → Prop := fun ((c, (v, (n, (m, (k, (d, (i, ()))))))), ()) => ∃ q p : Nat, ∃ h : p < c.length, i = q ∧ k = p ∧ q ≤ c.length ∧ c.length ≤ 80 ∧ d = distD c[p] v ∧ (∀ x ∈ c, pairV x v = 0) ∧ (∀ j (hj : j < c.length), distD c[p] v < distD c[j] v ∨ distD c[p] v = distD c[j] v ∧ p ≤ j)
def cn1Mu : cn1Z → Nat := fun ((c, (v, (n, (m, (k, (d, (i, ()))))))), ()) => c.length - i.toNat
def cn1R0 : cn1Z → ((List (List Int)) × (List Int) × Int × Int × Int × Unit) → (Unit) → Prop := fun ((c, (v, (n, (m, (k, (d, (i, ()))))))), ()) (c2, v2, n2, m2, k2, _) _ => c2 = c ∧ v2 = v ∧ n2 = n ∧ m2 = m ∧ k2 = k
def cn1R1 : cn1Z → (Unit × Unit) → (Unit) → Prop := fun ((c, (v, (n, (m, (k, (d, (i, ()))))))), ()) _ _ => False
noncomputable def cn1C : LoopC := loopC 0 cn1Fs (cn1Alts cn1R0 cn1R1) cn1Inv

theorem cn1Step : stepsOk Try.prog (KL [(30, rdistK)] []) 100 6 246 (loopBody Try.prog 6 11) 0 false cn1Fs (cn1Alts cn1R0 cn1R1) cn1Inv cn1Mu ⟨_, _, cn1Sl, cn1Bl, fun x y => (x, y)⟩ := by
  intro x y hz
  obtain ⟨c, v, n, m, k, d, i, _⟩ := x
  obtain _ := y
  refine (cn1Form c v n m k d i _ _ _).mpr ?_
  obtain ⟨q, p, hp, rfl, rfl, hq, hcl, rfl, h3, hm⟩ := hz
  rw [ifp_lt]
  split
  · rename_i h
    have hqc : q < c.length := by simpa using h
    have hpv := h3 _ (List.getElem_mem hqc)
    have hmq := hm q hqc
    simp only [natOf_nat]
    refine ⟨idx_ok hqc, _, _, _, _, _, _, nth_lst hqc, c[q], Wk.refl _, v, Wk.refl _, trivial, ?_⟩
    rw [ifp_ne, if_pos hpv, ifp_lt, if_neg (by omega), ifp_lt]
    split
    · rename_i hqp
      rw [ifp_eq, if_neg (by omega), ifp_eq, if_neg (by omega)]
      refine ⟨trivial, c, Wk.refl _, v, Wk.refl _, (by first | exact trivial | exact rfl), ?_⟩
      rw [wsucc (by omega)]
      exact ⟨⟨q + 1, p, hp, rfl, rfl, hqc, hcl, rfl, h3, hm⟩, by show c.length - (q + 1) < c.length - q; omega, fun _ _ h => h, fun _ _ h => h, trivial⟩
    · rename_i hqp
      rw [ifp_eq]
      split
      · rename_i he
        have he' : q = p := by omega
        subst he'
        rw [ifp_ne, if_pos rfl]
        refine ⟨trivial, c, Wk.refl _, v, Wk.refl _, (by first | exact trivial | exact rfl), ?_⟩
        rw [wsucc (by omega)]
        exact ⟨⟨q + 1, q, hp, rfl, rfl, hqc, hcl, rfl, h3, hm⟩, by show c.length - (q + 1) < c.length - q; omega, fun _ _ h => h, fun _ _ h => h, trivial⟩
      · rename_i he
        refine ⟨trivial, c, Wk.refl _, v, Wk.refl _, (by first | exact trivial | exact rfl), ?_⟩
        rw [wsucc (by omega)]
        exact ⟨⟨q + 1, p, hp, rfl, rfl, hqc, hcl, rfl, h3, hm⟩, by show c.length - (q + 1) < c.length - q; omega, fun _ _ h => h, fun _ _ h => h, trivial⟩
  · rename_i h
    exact ⟨trivial, c, Wk.refl _, v, Wk.refl _, (by first | exact trivial | exact rfl), rfl, rfl, rfl, rfl, rfl⟩
theorem cn1Ok : LoopOk Try.prog 6 246 (.loop (loopBody Try.prog 6 11)) cn1C := loop_ok cn1Mu mixed (KL_ok (cc_cons rdistCc (cc_nil))) rfl (steps_cons cn1Step (steps_nil))

/-! The loop cn2 of wayfinder/wayfinderlaw13.CellNearest. -/
abbrev cn2Z := ((List (List Int)) × (List Int) × (List Int) × Unit × Int × Unit) × ((Mp Int Bool) × Unit)
noncomputable def cn2Sl : Tel ((List (List Int)) × (List Int) × (List Int) × Unit × Int × Unit) := .cons 0 (.lst Ell) (.cons 1 (.lst Ei32) (.cons 15 (.lst Ei64) (.cons 19 (.mapr 0) (.cons 20 (.int .i64) (.nil)))))
noncomputable def cn2Bl : BTel ((Mp Int Bool) × Unit) := .cons (.mp Ki Vb) (.nil)
noncomputable def cn2Fs : List (LForm cn2Z) := [⟨_, _, cn2Sl, cn2Bl, fun x y => (x, y)⟩]
noncomputable def cn2Alts (R0 : cn2Z → (Unit) → (Unit) → Prop) (R1 : cn2Z → (Unit × Unit) → (Unit) → Prop) : List (Alt cn2Z) := [⟨.exit 2, Unit, Unit, .nil, .nil, R0⟩, ⟨.ret, Unit × Unit, Unit, .cons 8 (.con (.bool false) rfl) (.nil), .nil, R1⟩]

theorem cn2Form (c : List (List Int)) (v : List Int) (l : List Int) (i : Int) (M : Mp Int Bool) (N : cn2Z → Prop) (R0 : cn2Z → (Unit) → (Unit) → Prop) (R1 : cn2Z → (Unit × Unit) → (Unit) → Prop) : ((runW Try.prog (KLX [(30, rdistK)] [] [62] [] []) 100).code none 6 246 (loopBody Try.prog 6 24) (mkT (cn2Sl.av id (c, (v, (l, ((), (i, ()))))))) [] (stL false (cn2Bl.obs id (M, ()))) (postL 0 cn2Fs (cn2Alts R0 R1) ((c, (v, (l, ((), (i, ()))))), (M, ())) N)) =
  ( ifp (!leInt (Int.ofNat l.length) i) (idxOk i l.length ∧ ∃ (x : Int), nth ((natOf i).mul (1 : Nat)) (List.flatMap Ei64.f l) = some (AV.int IntKind.i64 x) ∧ ifp
  (!leInt (0 : Int) x) (True ∧ AV.bool false = AV.bool false ∧ true = true ∧ R1 ((c, v, l, (), i, ()), M, ()) ((), ()) ()) (idxOk i l.length ∧ ∃ (x : Int), nth
  ((natOf i).mul (1 : Nat)) (List.flatMap Ei64.f l) = some (AV.int IntKind.i64 x) ∧ ifp (leInt (Int.ofNat c.length) x) (True ∧ AV.bool false = AV.bool false ∧
  true = true ∧ R1 ((c, v, l, (), i, ()), M, ()) ((), ()) ()) (idxOk i l.length ∧ ∃ (x : Int), nth ((natOf i).mul (1 : Nat)) (List.flatMap Ei64.f l) = some
  (AV.int IntKind.i64 x) ∧ ∃ (c_1 : Bool), ∃ (b : Bool), lookIs (AV.int IntKind.i64 x) (Mp.enc Ki Vb M) (AV.bool false) (AV.bool b) c_1 ∧ ifp b (True ∧ AV.bool
  false = AV.bool false ∧ true = true ∧ R1 ((c, v, l, (), i, ()), M, ()) ((), ()) ()) (idxOk i l.length ∧ ∃ (x : Int), nth ((natOf i).mul (1 : Nat))
  (List.flatMap Ei64.f l) = some (AV.int IntKind.i64 x) ∧ ∃ (es' : List AEntry), ∃ (c' : Nat), updIs (AV.int IntKind.i64 x) (AV.bool true) (Mp.enc Ki Vb M)
  M.clock es' c' ∧ ifp (eqInt i (0 : Int)) (True ∧ ∃ (l_1 : List (List Int)), Wk (AV.vs (List.flatMap Ell.f c) c.length c.length false none (1 : Nat)) (lst Ell
  l_1) ∧ ∃ (l_2 : List Int), Wk (AV.vs (List.flatMap Ei32.f v) v.length v.length false none (1 : Nat)) (lst Ei32 l_2) ∧ ∃ (l_3 : List Int), Wk (AV.vs
  (List.flatMap Ei64.f l) l.length l.length false none (1 : Nat)) (lst Ei64 l_3) ∧ ∃ (m : Mp Int Bool), es' = Mp.enc Ki Vb m ∧ c' = m.clock ∧ true = true ∧ N
  ((l_1, l_2, l_3, (), wrapF IntKind.i64 (i.add (1 : Int)), ()), m, ())) (idxOk (wrapF IntKind.i64 (i.sub (1 : Int))) l.length ∧ ∃ (x : Int), nth ((natOf (wrapF
  IntKind.i64 (i.sub (1 : Int)))).mul (1 : Nat)) (List.flatMap Ei64.f l) = some (AV.int IntKind.i64 x) ∧ idxOk x c.length ∧ ∃ (l' : List AV), ∃ (n : Nat), ∃ (c_2
  : Nat), ∃ (x_1 : Bool), ∃ (w : Option Nat), ∃ (e : Nat), nth ((natOf x).mul (1 : Nat)) (List.flatMap Ell.f c) = some (AV.vs l' n c_2 x_1 w e) ∧ ∃ (l_1 : List
  Int), Wk (AV.vs l' n c_2 x_1 w e) (lst Ei32 l_1) ∧ ∃ (l_2 : List Int), Wk (AV.vs (List.flatMap Ei32.f v) v.length v.length false none (1 : Nat)) (lst Ei32 l_2)
  ∧ rdistPre (l_1, l_2, ()) ∧ idxOk i l.length ∧ ∃ (x : Int), nth ((natOf i).mul (1 : Nat)) (List.flatMap Ei64.f l) = some (AV.int IntKind.i64 x) ∧ idxOk x
  c.length ∧ ∃ (l' : List AV), ∃ (n : Nat), ∃ (c_3 : Nat), ∃ (x_2 : Bool), ∃ (w : Option Nat), ∃ (e : Nat), nth ((natOf x).mul (1 : Nat)) (List.flatMap Ell.f c)
  = some (AV.vs l' n c_3 x_2 w e) ∧ ∃ (l_3 : List Int), Wk (AV.vs l' n c_3 x_2 w e) (lst Ei32 l_3) ∧ ∃ (l_4 : List Int), Wk (AV.vs (List.flatMap Ei32.f v)
  v.length v.length false none (1 : Nat)) (lst Ei32 l_4) ∧ rdistPre (l_3, l_4, ()) ∧ ifp (!leInt (distD l_1 l_2) (distD l_3 l_4)) (True ∧ AV.bool false = AV.bool
  false ∧ true = true ∧ R1 ((c, v, l, (), i, ()), M, ()) ((), ()) ()) (ifp (eqInt (distD l_1 l_2) (distD l_3 l_4)) (idxOk (wrapF IntKind.i64 (i.sub (1 : Int)))
  l.length ∧ ∃ (x : Int), nth ((natOf (wrapF IntKind.i64 (i.sub (1 : Int)))).mul (1 : Nat)) (List.flatMap Ei64.f l) = some (AV.int IntKind.i64 x) ∧ idxOk i
  l.length ∧ ∃ (x_3 : Int), nth ((natOf i).mul (1 : Nat)) (List.flatMap Ei64.f l) = some (AV.int IntKind.i64 x_3) ∧ ifp (!leInt x x_3) (True ∧ True ∧ True ∧
  AV.bool false = AV.bool false ∧ true = true ∧ R1 ((c, v, l, (), i, ()), M, ()) ((), ()) ()) (True ∧ True ∧ True ∧ ∃ (l_5 : List (List Int)), Wk (AV.vs
  (List.flatMap Ell.f c) c.length c.length false none (1 : Nat)) (lst Ell l_5) ∧ ∃ (l_6 : List Int), Wk (AV.vs (List.flatMap Ei32.f v) v.length v.length false
  none (1 : Nat)) (lst Ei32 l_6) ∧ ∃ (l_7 : List Int), Wk (AV.vs (List.flatMap Ei64.f l) l.length l.length false none (1 : Nat)) (lst Ei64 l_7) ∧ ∃ (m : Mp Int
  Bool), es' = Mp.enc Ki Vb m ∧ c' = m.clock ∧ true = true ∧ N ((l_5, l_6, l_7, (), wrapF IntKind.i64 (i.add (1 : Int)), ()), m, ()))) (True ∧ ∃ (l_5 : List
  (List Int)), Wk (AV.vs (List.flatMap Ell.f c) c.length c.length false none (1 : Nat)) (lst Ell l_5) ∧ ∃ (l_6 : List Int), Wk (AV.vs (List.flatMap Ei32.f v)
  v.length v.length false none (1 : Nat)) (lst Ei32 l_6) ∧ ∃ (l_7 : List Int), Wk (AV.vs (List.flatMap Ei64.f l) l.length l.length false none (1 : Nat)) (lst
  Ei64 l_7) ∧ ∃ (m : Mp Int Bool), es' = Mp.enc Ki Vb m ∧ c' = m.clock ∧ true = true ∧ N ((l_5, l_6, l_7, (), wrapF IntKind.i64 (i.add (1 : Int)), ()), m,
  ())))))))) (True ∧ true = true ∧ R0 ((c, v, l, (), i, ()), M, ()) () ())) := by kernel_rfl

def cn2Inv : cn2Z → Prop := fun ((c, (v, (l, ((), (i, ()))))), (M, ())) => ∃ q : Nat, i = q ∧ q ≤ l.length ∧ l.length ≤ 1000 ∧ OrdOk c v l ∧ Seen M (l.take q) ∧ M.clock ≤ q
def cn2Mu : cn2Z → Nat := fun ((c, (v, (l, ((), (i, ()))))), (M, ())) => l.length - i.toNat
def cn2R0 : cn2Z → (Unit) → (Unit) → Prop := fun ((c, (v, (l, ((), (i, ()))))), (M, ())) _ _ => True
def cn2R1 : cn2Z → (Unit × Unit) → (Unit) → Prop := fun ((c, (v, (l, ((), (i, ()))))), (M, ())) _ _ => False
noncomputable def cn2C : LoopC := loopC 0 cn2Fs (cn2Alts cn2R0 cn2R1) cn2Inv

theorem cn2Step : stepsOk Try.prog (KLX [(30, rdistK)] [] [62] [] []) 100 6 246 (loopBody Try.prog 6 24) 0 false cn2Fs (cn2Alts cn2R0 cn2R1) cn2Inv cn2Mu ⟨_, _, cn2Sl, cn2Bl, fun x y => (x, y)⟩ := by
  intro x y hz
  obtain ⟨c, v, l, _, i, _⟩ := x
  obtain ⟨M, _⟩ := y
  refine (cn2Form c v l i M _ _ _).mpr ?_
  obtain ⟨q, rfl, hq, hl, hO, hS, hc⟩ := hz
  obtain ⟨hO1, hO2, hO3⟩ := hO
  have hO : OrdOk c v l := ⟨hO1, hO2, hO3⟩
  rw [ifp_lt]
  split
  · rename_i h
    have hql : q < l.length := by simpa using h
    obtain ⟨x0, x1⟩ := hO1 _ (List.getElem_mem hql)
    obtain ⟨a, ha⟩ := Int.eq_ofNat_of_zero_le x0
    have hac : a < c.length := by omega
    have hnin : l[q] ∉ l.take q := by
      intro hmem
      obtain ⟨j, hj, e⟩ := List.getElem_of_mem hmem
      rw [List.length_take] at hj
      rw [List.getElem_take] at e
      exact absurd ((List.getElem_inj hO2).1 e) (by omega)
    have hlook := seen_look hS l[q]
    rw [decide_eq_false hnin] at hlook
    simp only [natOf_nat]
    refine ⟨idx_ok hql, _, nth_int hql, ?_⟩
    rw [ifp_lt, if_neg (by omega)]
    refine ⟨idx_ok hql, _, nth_int hql, ?_⟩
    rw [ifp_le, if_neg (by simp only [Int.ofNat_eq_natCast]; omega)]
    refine ⟨idx_ok hql, _, nth_int hql, _, _, hlook, ?_⟩
    rw [ifp_neg rfl]
    refine ⟨idx_ok hql, _, nth_int hql, _, _, M.upd_is (KE := Ki) (VE := Vb) l[q] true, ?_⟩
    rw [ifp_eq]
    split
    · rename_i hq0
      refine ⟨trivial, c, Wk.refl _, v, Wk.refl _, l, Wk.refl _, _, rfl, rfl, (by first | exact trivial | exact rfl), ?_⟩
      rw [wsucc (by omega)]
      refine ⟨⟨q + 1, rfl, hql, hl, hO, by rw [← List.take_append_getElem hql]; exact seen_upd hS _, ?_⟩, by show l.length - (q + 1) < l.length - q; omega, fun _ _ h => h, fun _ _ h => h, trivial⟩
      have := M.upd_clock_le l[q] true
      omega
    · rename_i hq0
      have hq1 : q - 1 < l.length := by omega
      have eq1 : wrapF .i64 (Int.sub (q : Int) 1) = ((q - 1 : Nat) : Int) := by rw [wsub (by omega) (by omega)]; omega
      obtain ⟨y0, y1⟩ := hO1 _ (List.getElem_mem hq1)
      obtain ⟨b, hb⟩ := Int.eq_ofNat_of_zero_le y0
      have hbc : b < c.length := by omega
      have hord := hO3 (q - 1) (by omega)
      have eqq : l[q - 1 + 1]'(by omega) = l[q] := by congr 1; omega
      have eb : c.getD (l[q - 1]).toNat [] = c[b] := by rw [hb]; show c.getD b [] = _; simp [hbc]
      have ea : c.getD (l[q]).toNat [] = c[a] := by rw [ha]; show c.getD a [] = _; simp [hac]
      rw [eqq, eb, ea] at hord
      simp only [eq1, natOf_nat]
      refine ⟨idx_ok hq1, _, nth_int hq1, by rw [hb]; exact idx_ok hbc, _, _, _, _, _, _, by rw [hb]; exact nth_lst hbc, c[b], Wk.refl _, v, Wk.refl _, trivial, idx_ok hql, _, nth_int hql, by rw [ha]; exact idx_ok hac, _, _, _, _, _, _, by rw [ha]; exact nth_lst hac, c[a], Wk.refl _, v, Wk.refl _, trivial, ?_⟩
      rw [ifp_lt, if_neg (by omega), ifp_eq]
      split
      · rename_i hdd
        refine ⟨idx_ok hq1, _, nth_int hq1, idx_ok hql, _, nth_int hql, ?_⟩
        rw [ifp_lt, if_neg (by omega)]
        refine ⟨trivial, trivial, trivial, c, Wk.refl _, v, Wk.refl _, l, Wk.refl _, _, rfl, rfl, (by first | exact trivial | exact rfl), ?_⟩
        rw [wsucc (by omega)]
        refine ⟨⟨q + 1, rfl, hql, hl, hO, by rw [← List.take_append_getElem hql]; exact seen_upd hS _, ?_⟩, by show l.length - (q + 1) < l.length - q; omega, fun _ _ h => h, fun _ _ h => h, trivial⟩
        have := M.upd_clock_le l[q] true
        omega
      · refine ⟨trivial, c, Wk.refl _, v, Wk.refl _, l, Wk.refl _, _, rfl, rfl, (by first | exact trivial | exact rfl), ?_⟩
        rw [wsucc (by omega)]
        refine ⟨⟨q + 1, rfl, hql, hl, hO, by rw [← List.take_append_getElem hql]; exact seen_upd hS _, ?_⟩, by show l.length - (q + 1) < l.length - q; omega, fun _ _ h => h, fun _ _ h => h, trivial⟩
        have := M.upd_clock_le l[q] true
        omega
  · exact ⟨trivial, (by first | exact trivial | exact rfl), trivial⟩
theorem cn2Ok : LoopOk Try.prog 6 246 (.loop (loopBody Try.prog 6 24)) cn2C := loop_ok cn2Mu mixed (KLX_ok (cc_cons rdistCc (cc_nil))) rfl (steps_cons cn2Step (steps_nil))

/-! The law CellNearest. -/
noncomputable def cellNearestT : Tel ((List (List Int)) × (List Int) × Int × Int × Unit) := .cons 0 (.lst Ell) (.cons 1 (.lst Ei32) (.cons 2 (.int .i64) (.cons 3 (.int .i64) (.nil))))
abbrev cellNearestShapes : List Sh := [.slice (.slice (.int .i32)), .slice (.int .i32), .int .i64, .int .i64]

theorem cellNearestFn (c : List (List Int)) (v : List Int) (n : Int) (m : Int) : (callW Try.prog (runW Try.prog (KLX [(27, lives13K), (28, lightK), (29, nearestK), (30, rdistK), (11, pickK), (31, ordK), (32, sameITK)] [(6, [(11, cn1C), (24, cn2C)])] [62] [] []) 300) 6 (cellNearestT.cells id (c, (v, (n, (m, ()))))) (stB true) (fun v _ => yesQ v)) =
  ( True ∧ ∃ (l : List (List Int)), Wk (AV.vs (List.flatMap Ell.f c) c.length c.length false none (1 : Nat)) (lst Ell l) ∧ lightPre (l, (80 : Int), (30 : Int), ())
  ∧ ifp (lightV l (80 : Int) (30 : Int)) (ifp (!leInt (Int.ofNat v.length) (30 : Int)) True (∃ (l : List (List Int)), Wk (AV.vs (List.flatMap Ell.f c) c.length
  c.length false none (1 : Nat)) (lst Ell l) ∧ ∃ (l_1 : List Int), Wk (AV.vs (List.flatMap Ei32.f v) v.length v.length false none (1 : Nat)) (lst Ei32 l_1) ∧
  nearestPre (l, l_1, ()) ∧ ifp (!eqInt (bothV l l_1) (0 : Int)) (ifp (eqInt (nearV l l_1).fst (0 : Int)) (ifp (eqInt (nearV l l_1).snd (0 : Int)) True False)
  False) (ifp (!leInt (0 : Int) (nearV l l_1).fst) False (ifp (leInt (Int.ofNat c.length) (nearV l l_1).fst) False (LoopOk Try.prog (6 : FuncId) (246 : Nat)
  (loopBody Try.prog (6 : FuncId) (11 : Nat)).loop cn1C ∧ True ∧ True ∧ ∃ (l_2 : List (List Int)), Wk (AV.vs (List.flatMap Ell.f c) c.length c.length false none
  (1 : Nat)) (lst Ell l_2) ∧ ∃ (l_3 : List Int), Wk (AV.vs (List.flatMap Ei32.f v) v.length v.length false none (1 : Nat)) (lst Ei32 l_3) ∧ true = true ∧ cn1Inv
  ((l_2, l_3, n, m, (nearV l l_1).fst, (nearV l l_1).snd, (0 : Int), ()), ()) ∧ (∀ (c : List (List Int) × List Int × Int × Int × Int × Unit) (d : Unit), cn1R0
  ((l_2, l_3, n, m, (nearV l l_1).fst, (nearV l l_1).snd, (0 : Int), ()), ()) c d → pickPre (c.2.2.1, (160 : Int), ()) ∧ pickPre (c.2.2.2.1, wrapF IntKind.i64
  ((pickV c.2.2.1 (160 : Int)).add (1 : Int)), ()) ∧ ∃ (l : List (List Int)), Wk (AV.vs (List.flatMap Ell.f c.1) c.1.length c.1.length false none (1 : Nat)) (lst
  Ell l) ∧ ∃ (l_4 : List Int), Wk (AV.vs (List.flatMap Ei32.f c.2.1) c.2.1.length c.2.1.length false none (1 : Nat)) (lst Ei32 l_4) ∧ ordPre (l, l_4, pickV
  c.2.2.1 (160 : Int), ()) ∧ ∃ (l_5 : List (List Int)), Wk (AV.vs (List.flatMap Ell.f c.1) c.1.length c.1.length false none (1 : Nat)) (lst Ell l_5) ∧ ∃ (l_6 :
  List Int), Wk (AV.vs (List.flatMap Ei32.f c.2.1) c.2.1.length c.2.1.length false none (1 : Nat)) (lst Ei32 l_6) ∧ ordPre (l_5, l_6, pickV c.2.2.2.1 (wrapF
  IntKind.i64 ((pickV c.2.2.1 (160 : Int)).add (1 : Int))), ()) ∧ ifp (!eqInt (ordE l l_4 (pickV c.2.2.1 (160 : Int))) (0 : Int)) False (ifp (!eqInt (ordE l_5
  l_6 (pickV c.2.2.2.1 (wrapF IntKind.i64 ((pickV c.2.2.1 (160 : Int)).add (1 : Int))))) (0 : Int)) False (ifp (!eqInt (Int.ofNat (ordL l l_4 (pickV c.2.2.1 (160
  : Int))).length) (ifb (leInt (pickV c.2.2.1 (160 : Int)) (Int.ofNat c.1.length)) (pickV c.2.2.1 (160 : Int)) (Int.ofNat c.1.length))) False (ifp (!eqInt
  (Int.ofNat (ordL l_5 l_6 (pickV c.2.2.2.1 (wrapF IntKind.i64 ((pickV c.2.2.1 (160 : Int)).add (1 : Int))))).length) (ifb (leInt (pickV c.2.2.2.1 (wrapF
  IntKind.i64 ((pickV c.2.2.1 (160 : Int)).add (1 : Int)))) (Int.ofNat c.1.length)) (pickV c.2.2.2.1 (wrapF IntKind.i64 ((pickV c.2.2.1 (160 : Int)).add (1 :
  Int)))) (Int.ofNat c.1.length))) False ((0 : Int) ≤ Int.ofNat (ordL l_5 l_6 (pickV c.2.2.2.1 (wrapF IntKind.i64 ((pickV c.2.2.1 (160 : Int)).add (1 :
  Int))))).length ∧ Int.ofNat (ordL l_5 l_6 (pickV c.2.2.2.1 (wrapF IntKind.i64 ((pickV c.2.2.1 (160 : Int)).add (1 : Int))))).length ≤ ↑(ordL l l_4 (pickV
  c.2.2.1 (160 : Int))).length ∧ natOf (Int.ofNat (ordL l_5 l_6 (pickV c.2.2.2.1 (wrapF IntKind.i64 ((pickV c.2.2.1 (160 : Int)).add (1 : Int))))).length) ≤
  (ordL l l_4 (pickV c.2.2.1 (160 : Int))).length ∧ (List.flatMap Ei64.f (ordL l l_4 (pickV c.2.2.1 (160 : Int)))).length = (ordL l l_4 (pickV c.2.2.1 (160 :
  Int))).length.mul (1 : Nat) ∧ ∃ (l_7 : List Int), Wk (AV.vs (List.flatMap Ei64.f (ordL l_5 l_6 (pickV c.2.2.2.1 (wrapF IntKind.i64 ((pickV c.2.2.1 (160 :
  Int)).add (1 : Int)))))) (ordL l_5 l_6 (pickV c.2.2.2.1 (wrapF IntKind.i64 ((pickV c.2.2.1 (160 : Int)).add (1 : Int))))).length (ordL l_5 l_6 (pickV c.2.2.2.1
  (wrapF IntKind.i64 ((pickV c.2.2.1 (160 : Int)).add (1 : Int))))).length false none (1 : Nat)) (lst Ei64 l_7) ∧ ∃ (l_8 : List Int), Wk (AV.vs (List.take
  (((natOf (Int.ofNat (ordL l_5 l_6 (pickV c.2.2.2.1 (wrapF IntKind.i64 ((pickV c.2.2.1 (160 : Int)).add (1 : Int))))).length)).sub (0 : Nat)).mul (1 : Nat))
  (List.drop (0 : Nat) (List.flatMap Ei64.f (ordL l l_4 (pickV c.2.2.1 (160 : Int)))))) ((natOf (Int.ofNat (ordL l_5 l_6 (pickV c.2.2.2.1 (wrapF IntKind.i64
  ((pickV c.2.2.1 (160 : Int)).add (1 : Int))))).length)).sub (0 : Nat)) ((ordL l l_4 (pickV c.2.2.1 (160 : Int))).length.sub (0 : Nat)) (mxEx none false) none
  (1 : Nat)) (lst Ei64 l_8) ∧ sameITPre (l_7, l_8, ()) ∧ ifp (!leInt (Int.ofNat (ordL l l_4 (pickV c.2.2.1 (160 : Int))).length) (0 : Int)) (idxOk (0 : Int)
  (ordL l l_4 (pickV c.2.2.1 (160 : Int))).length ∧ ∃ (x : Int), nth (0 : Nat) (List.flatMap Ei64.f (ordL l l_4 (pickV c.2.2.1 (160 : Int)))) = some (AV.int
  IntKind.i64 x) ∧ ifp (!eqInt x c.2.2.2.2.1) False (LoopOk Try.prog (6 : FuncId) (246 : Nat) (loopBody Try.prog (6 : FuncId) (24 : Nat)).loop cn2C ∧ True ∧ True
  ∧ ∃ (l_9 : List (List Int)), Wk (AV.vs (List.flatMap Ell.f c.1) c.1.length c.1.length false none (1 : Nat)) (lst Ell l_9) ∧ ∃ (l_10 : List Int), Wk (AV.vs
  (List.flatMap Ei32.f c.2.1) c.2.1.length c.2.1.length false none (1 : Nat)) (lst Ei32 l_10) ∧ ∃ (l_11 : List Int), Wk (AV.vs (List.flatMap Ei64.f (ordL l l_4
  (pickV c.2.2.1 (160 : Int)))) (ordL l l_4 (pickV c.2.2.1 (160 : Int))).length (ordL l l_4 (pickV c.2.2.1 (160 : Int))).length false none (1 : Nat)) (lst Ei64
  l_11) ∧ ∃ (m : Mp Int Bool), [] = Mp.enc Ki Vb m ∧ (0 : Nat) = m.clock ∧ true = true ∧ cn2Inv ((l_9, l_10, l_11, (), (0 : Int), ()), m, ()) ∧ (∀ (c d : Unit),
  cn2R0 ((l_9, l_10, l_11, (), (0 : Int), ()), m, ()) c d → True) ∧ (∀ (c : Unit × Unit) (d : Unit), cn2R1 ((l_9, l_10, l_11, (), (0 : Int), ()), m, ()) c d →
  False) ∧ True)) (LoopOk Try.prog (6 : FuncId) (246 : Nat) (loopBody Try.prog (6 : FuncId) (24 : Nat)).loop cn2C ∧ True ∧ True ∧ ∃ (l_9 : List (List Int)), Wk
  (AV.vs (List.flatMap Ell.f c.1) c.1.length c.1.length false none (1 : Nat)) (lst Ell l_9) ∧ ∃ (l_10 : List Int), Wk (AV.vs (List.flatMap Ei32.f c.2.1)
  c.2.1.length c.2.1.length false none (1 : Nat)) (lst Ei32 l_10) ∧ ∃ (l_11 : List Int), Wk (AV.vs (List.flatMap Ei64.f (ordL l l_4 (pickV c.2.2.1 (160 : Int))))
  (ordL l l_4 (pickV c.2.2.1 (160 : Int))).length (ordL l l_4 (pickV c.2.2.1 (160 : Int))).length false none (1 : Nat)) (lst Ei64 l_11) ∧ ∃ (m : Mp Int Bool), []
  = Mp.enc Ki Vb m ∧ (0 : Nat) = m.clock ∧ true = true ∧ cn2Inv ((l_9, l_10, l_11, (), (0 : Int), ()), m, ()) ∧ (∀ (c d : Unit), cn2R0 ((l_9, l_10, l_11, (), (0
  : Int), ()), m, ()) c d → True) ∧ (∀ (c : Unit × Unit) (d : Unit), cn2R1 ((l_9, l_10, l_11, (), (0 : Int), ()), m, ()) c d → False) ∧ True)))))) ∧ (∀ (c : Unit
  × Unit) (d : Unit), cn1R1 ((l_2, l_3, n, m, (nearV l l_1).fst, (nearV l l_1).snd, (0 : Int), ()), ()) c d → False) ∧ True))))) True) := by kernel_rfl

theorem cellNearestHolds (c : List (List Int)) (v : List Int) (n : Int) (m : Int) (hc : Sh.plOk (.slice (.slice (.int .i32))) c) (hv : Sh.plOk (.slice (.int .i32)) v) (hn : Sh.plOk (.int .i64) n) (hm : Sh.plOk (.int .i64) m) : callW Try.prog (runW Try.prog (KLX [(27, lives13K), (28, lightK), (29, nearestK), (30, rdistK), (11, pickK), (31, ordK), (32, sameITK)] [(6, [(11, cn1C), (24, cn2C)])] [62] [] []) 300) 6 (cellNearestT.cells id (c, (v, (n, (m, ()))))) (stB true) (fun v _ => yesQ v) := by
  refine (cellNearestFn c v n m).mpr ?_
  refine ⟨trivial, c, Wk.refl _, by show (80 : Int) < _; decide, ?_⟩
  rw [ifp_if]
  split
  · rename_i hL
    obtain ⟨l1, l2⟩ := lightV_inv (m := 80) (n := 30) hL
    rw [ifp_lt]
    split
    · trivial
    refine ⟨c, Wk.refl _, v, Wk.refl _, trivial, ?_⟩
    rw [ifp_ne]
    split
    · rename_i h
      obtain ⟨h1, h2, h3⟩ := bothV_inv h
      obtain ⟨h4, h5, _⟩ := checkV_inv h1
      obtain ⟨p, hp, e, hmn⟩ := near_spec v c (by rintro rfl; simp at h4)
      have hd : ∀ q (hq : q < c.length), distD c[q] v = sqs c[q] v := fun q hq => by rw [distD, if_pos (h3 _ (List.getElem_mem hq))]
      have e1 : nearV c v = ((p : Int), distD c[p] v) := by rw [nearV, if_pos h, e, hd p hp]
      rw [e1]
      rw [ifp_lt, if_neg (by show ¬ (p : Int) < 0; omega), ifp_le, if_neg (by show ¬ (c.length : Int) ≤ p; omega)]
      refine ⟨cn1Ok, trivial, trivial, c, Wk.refl _, v, Wk.refl _, (by first | exact trivial | exact rfl), ⟨0, p, hp, rfl, rfl, Nat.zero_le _, l1, rfl, h3, fun j hj => by rw [hd p hp, hd j hj]; exact hmn j hj⟩, fun d _ hr => ?_, fun _ _ h => h, trivial⟩
      obtain ⟨c2, v2, n2, m2, k2, _⟩ := d
      obtain ⟨g1, g2, g3, g4, g5⟩ := hr
      obtain rfl : c = c2 := g1.symm
      obtain rfl : v = v2 := g2.symm
      obtain rfl : n = n2 := g3.symm
      obtain rfl : m = m2 := g4.symm
      obtain rfl : (p : Int) = k2 := g5.symm
      obtain ⟨w1, w2⟩ := wf_i64 hn
      obtain ⟨w3, w4⟩ := wf_i64 hm
      obtain ⟨p1, p2⟩ := pick_range (n := n) (m := 160) (by omega)
      have ea : wrapF .i64 (Int.add (pickV n 160) 1) = pickV n 160 + 1 := by rw [w64 (by show _ ≤ pickV n 160 + 1; omega) (by show pickV n 160 + 1 < _; omega)]; rfl
      simp only [ea]
      refine ⟨⟨w1, w2, by decide⟩, ⟨w3, w4, by show pickV n 160 + 1 < _; omega⟩, ?_⟩
      obtain ⟨p3, p4⟩ := pick_range (n := m) (m := pickV n 160 + 1) (by omega)
      generalize pickV n 160 = A at p1 p2 p3 p4 ⊢
      generalize pickV m (A + 1) = D at p3 p4 ⊢
      have eA : ordE c v A = 0 := by rw [ordE, if_neg (by simp [h]), if_neg (by omega)]
      have eD : ordE c v D = 0 := by rw [ordE, if_neg (by simp [h]), if_neg (by omega)]
      have lA := ord_len h p1
      have lD := ord_len h p3
      have tk := ord_take (c := c) (v := v) p3 (show D ≤ A by omega)
      have hle : (ordL c v D).length ≤ (ordL c v A).length := by rw [← tk, List.length_take]; omega
      have hAl : (ordL c v A).length ≤ c.length := by rw [ordL, List.length_map, List.length_take, farV_len h]; omega
      refine ⟨c, Wk.refl _, v, Wk.refl _, trivial, c, Wk.refl _, v, Wk.refl _, trivial, ?_⟩
      rw [ifp_ne, if_pos eA, ifp_ne, if_pos eD, ifp_ne, if_pos lA, ifp_ne, if_pos lD]
      have wk : Wk (.vs (List.take (((ordL c v D).length - 0) * 1) (List.drop 0 ((ordL c v A).flatMap Ei64.f))) ((ordL c v D).length - 0) ((ordL c v A).length - 0) (mxEx none false) none 1) (lst Ei64 (ordL c v D)) :=
        wk_vs ⟨by rw [List.drop_zero, Nat.sub_zero, Nat.mul_one, ftake1 (E := Ei64) rfl, tk], Nat.sub_zero _, rfl⟩
      refine ⟨by simp only [Int.ofNat_eq_natCast]; omega, by simp only [Int.ofNat_eq_natCast]; omega, hle, Enc.flen Ei64 _, _, Wk.refl _, _, wk, ⟨by show (ordL c v D).length < _; omega, by simp⟩, ?_⟩
      have hO := ord_ok h A
      rw [ifp_lt]
      split
      · rename_i h0
        have h0' : 0 < (ordL c v A).length := by simp only [Int.ofNat_eq_natCast] at h0; omega
        have hf0 : 0 < (farV c v).length := by rw [farV_len h]; omega
        have hhd : (ordL c v A)[0] = (p : Int) := by
          have := far_head h hf0
          rw [e1] at this
          simp [ordL, this]
        refine ⟨idx_ok0 h0', _, nth_int0 h0', ?_⟩
        rw [ifp_ne, if_pos hhd]
        exact ⟨cn2Ok, trivial, trivial, c, Wk.refl _, v, Wk.refl _, _, Wk.refl _, Mp.empty, rfl, rfl, (by first | exact trivial | exact rfl), ⟨0, rfl, Nat.zero_le _, by omega, hO, fun y => by simp [Mp.empty_find], Nat.zero_le _⟩, fun _ _ _ => trivial, fun _ _ h => h, trivial⟩
      · exact ⟨cn2Ok, trivial, trivial, c, Wk.refl _, v, Wk.refl _, _, Wk.refl _, Mp.empty, rfl, rfl, (by first | exact trivial | exact rfl), ⟨0, rfl, Nat.zero_le _, by omega, hO, fun y => by simp [Mp.empty_find], Nat.zero_le _⟩, fun _ _ _ => trivial, fun _ _ h => h, trivial⟩
    · rename_i h
      have e := nearV_bad h
      rw [e, ifp_eq, if_pos rfl, ifp_eq, if_pos rfl]
      trivial
  · trivial
theorem cellNearestTrue (y : ShPls cellNearestShapes) (hy : ShPlOks cellNearestShapes y) : callW Try.prog (runW Try.prog (KLX [(27, lives13K), (28, lightK), (29, nearestK), (30, rdistK), (11, pickK), (31, ordK), (32, sameITK)] [(6, [(11, cn1C), (24, cn2C)])] [62] [] []) 300) 6 (ShPlAvs cellNearestShapes y) (stB true) (fun v _ => yesQ v) :=
  cellNearestHolds y.1 y.2.1 y.2.2.1 y.2.2.2.1 hy.1 hy.2.1 hy.2.2.1 hy.2.2.2.1
theorem cellNearestCalls {x : ShVs cellNearestShapes} (hx : ShOks cellNearestShapes x) {W : World} {args : Array Value} (h : VRs (frozenAll W) (ShAvs cellNearestShapes x) args.toList) : Calls Try.prog 6 args W fun e w' => e = .returned (.bool true) ∧ Below W.heap.size W w' :=
  law_plain mixed (KLX_ok (cc_cons lives13Cc (cc_cons lightCc (cc_cons nearestCc (cc_cons rdistCc (cc_cons pickCc (cc_cons ordCc (cc_cons sameITCc (cc_nil))))))))) cellNearestTrue hx h

end Go.Proofs.Ytfcdpdejoogapaa
