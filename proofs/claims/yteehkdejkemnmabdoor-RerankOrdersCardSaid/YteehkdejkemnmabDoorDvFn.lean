/- Functions by what they answer: tables of contracts; answers that lie in rows are told as values. -/
import Derived.Test.YteehkdejkemnmabDoorDvSpec
set_option linter.unusedVariables false
set_option linter.unusedSimpArgs false
namespace Go.Det
open Go.RowKit
variable {P : Program}

/-! Rows are told by their cells. -/
mutual
noncomputable def frzW (st : St) (x : AV) (k : AV → Prop) : Prop :=
  match x with
  | .slice b o n c ex e => rowW st b fun cs _ => Nat.add o (Nat.mul n e) ≤ cs.length ∧ k (.vs ((cs.drop o).take (Nat.mul n e)) n c ex none e)
  | .tuple l => frzsW st l fun l' => k (.tuple l')
  | .agg l => frzsW st l fun l' => k (.agg l')
  | x => k x
noncomputable def frzsW (st : St) (l : List AV) (k : List AV → Prop) : Prop :=
  match l with
  | [] => k []
  | v :: l => frzW st v fun u => frzsW st l fun m => k (u :: m)
end

/-- What is known of memory if no row is written any more. -/
noncomputable def Names.ice (ρ : Names) (st : St) (w : World) : Names :=
  open Classical in
  ⟨fun _ => none, fun a i => if (ρ.mem a i).isSome then ρ.mem a i else if ∃ b cs e L, st.heap.get b = some (.row cs e) ∧ ρ b = some L ∧ L.blk = a ∧ i < cs.length then w.cell? ⟨a, i, none⟩ else none⟩
theorem ice_mem {ρ : Names} {st : St} {w : World} {a i : Nat} {v : Value} (h : ρ.mem a i = some v) : (ρ.ice st w).mem a i = some v := by
  classical
  show (if (ρ.mem a i).isSome then ρ.mem a i else _) = some v
  rw [if_pos (by rw [h]; rfl)]; exact h
theorem ice_inv {ρ : Names} {st : St} {w : World} {a i : Nat} {v : Value} (h : (ρ.ice st w).mem a i = some v) : ρ.mem a i = some v ∨ ((∃ b cs e L, st.heap.get b = some (.row cs e) ∧ ρ b = some L ∧ L.blk = a ∧ i < cs.length) ∧ w.cell? ⟨a, i, none⟩ = some v) := by
  classical
  have h' : (if (ρ.mem a i).isSome then ρ.mem a i else if ∃ b cs e L, st.heap.get b = some (.row cs e) ∧ ρ b = some L ∧ L.blk = a ∧ i < cs.length then w.cell? ⟨a, i, none⟩ else none) = some v := h
  split at h'
  · exact .inl h'
  · split at h'
    · rename_i q; exact .inr ⟨q, h'⟩
    · cases h'
theorem ice_row {ρ : Names} {st : St} {w : World} (h : HR ρ st w) {b : Nat} {cs : List AV} {e : TypeId} {L : Loc} (hb : st.heap.get b = some (.row cs e)) (hL : ρ b = some L) {i : Nat} (hi : i < cs.length) {v : Value} (hv : w.cell? ⟨L.blk, i, none⟩ = some v) : (ρ.ice st w).mem L.blk i = some v := by
  classical
  show (if (ρ.mem L.blk i).isSome then ρ.mem L.blk i else if _ then _ else _) = some v
  split
  · rename_i q
    obtain ⟨u, hu⟩ := Option.isSome_iff_exists.1 q
    have := (h.sep _ _ _ hu _ _ _ hb hL rfl).1
    cases this
  · rw [if_pos ⟨b, cs, e, L, hb, hL, rfl, hi⟩]; exact hv

theorem ice_vr {ρ : Names} {st : St} {w : World} {v : AV} {y : Value} (h : VR ρ v y) (hf : AV.free (AV.drop v) = true) : VR (ρ.ice st w) (AV.drop v) y := VR.free (fun _ _ _ h => ice_mem h) h.dropped hf
theorem ice_slice {ρ : Names} {st : St} {w : World} (h : HR ρ st w) {b o n c e : Nat} {ex : Bool} {y : Value} (hy : VR ρ (.slice b o n c ex e) y) {cs : List AV} {te : TypeId} (hr : rowOf st b = some (cs, te)) (hn : o + n * e ≤ cs.length)
    (hf : AV.free (AV.drop (.vs ((cs.drop o).take (n * e)) n c ex none e)) = true) : VR (ρ.ice st w) (AV.drop (.vs ((cs.drop o).take (n * e)) n c ex none e)) y := by
  have hb := rowOf_get hr
  cases hy with
  | slice hL q2 q3 q4 q5 =>
    rename_i L a cap'
    obtain ⟨L', hL', hO⟩ := h.obj _ _ hb
    rw [hL] at hL'; injection hL' with hL'; subst hL'
    obtain ⟨arr, e', lo, hi, h1, h2, h3, h4, h5⟩ := hO
    let l' := arr.toList.take cs.length
    have hlen : l'.length = cs.length := by
      show (arr.toList.take cs.length).length = _
      have h9 : arr.toList.length = L.tot := by rw [Array.length_toList, h2]
      rw [List.length_take]; omega
    have hget : ∀ (i : Nat) (v : Value), l'[i]? = some v → i < cs.length ∧ w.cell? ⟨L.blk, i, none⟩ = some v := fun i v hv => by
      have hv' : (arr.toList.take cs.length)[i]? = some v := hv
      rw [List.getElem?_take] at hv'
      split at hv'
      · rename_i q
        rw [Array.getElem?_toList] at hv'
        exact ⟨q, by simp only [World.cell?, h1]; simpa using hv'⟩
      · cases hv'
    have hvr : VRs ρ cs l' := VRs.of_get hlen fun i v hv => by
      obtain ⟨_, v', q1, q2⟩ := h5 i v hv
      have hi : i < cs.length := by
        rcases Nat.lt_or_ge i cs.length with q | q
        · exact q
        · rw [List.getElem?_eq_none q] at hv; cases hv
      refine ⟨v', ?_, q2⟩
      show (arr.toList.take cs.length)[i]? = _
      rw [List.getElem?_take_of_lt hi, Array.getElem?_toList]
      rw [h3.1, Nat.zero_add] at q1; exact q1
    have hsc : allScalar cs = true := allScalar_iff.2 fun v hv => by
      obtain ⟨i, hi, rfl⟩ := List.getElem_of_mem hv
      exact (h5 i _ (List.getElem?_eq_getElem hi)).1
    have hv2 : VRs ρ ((cs.drop o).take (n * e)) ((l'.drop o).take (n * e)) := (hvr.drop _).take _
    have hsc2 : allScalar ((cs.drop o).take (n * e)) = true := allScalar_iff.2 fun u hu => allScalar_iff.1 hsc u (List.mem_of_mem_drop (List.mem_of_mem_take hu))
    have hf' : AV.frees (AV.drops ((cs.drop o).take (n * e))) = true := by simpa [AV.drop, AV.free] using hf
    have hv3 : VRs (ρ.ice st w) (AV.drops ((cs.drop o).take (n * e))) ((l'.drop o).take (n * e)) := VRs.free (fun _ _ _ h => ice_mem h) hv2.dropped hf'
    refine .vs (blk := L.blk) (off := o) hv3 (by rw [drops_scalar]; exact hsc2) (by rw [drops_length, List.length_take, List.length_drop]; omega) q2 q3 q4 ?_ (fun b hb => by cases hb)
    rcases q5 with q5 | ⟨q5, q6⟩
    · exact .inl q5
    · refine .inr ⟨by rw [q5, h3.1, Nat.zero_add], fun i v' hv' => ?_⟩
      have hi : i < n * e := by
        rcases Nat.lt_or_ge i (n * e) with q | q
        · exact q
        · rw [List.getElem?_eq_none (by rw [List.length_take]; omega)] at hv'; cases hv'
      rw [List.getElem?_take_of_lt hi, List.getElem?_drop] at hv'
      obtain ⟨g1, g2⟩ := hget _ _ hv'
      exact ice_row h hb hL g1 g2
mutual
theorem frz_sound {ρ : Names} {st : St} {w : World} (h : HR ρ st w) : ∀ {x : AV} {k : AV → Prop} {y : Value}, frzW st x k → VR ρ x y → ∃ u, k u ∧ (AV.free (AV.drop u) = true → VR (ρ.ice st w) (AV.drop u) y)
  | .slice b o n c ex e, k, y, hk, hy => by
    unfold frzW at hk
    obtain ⟨cs, te, h1, h2, h3⟩ := rowW_iff.1 hk
    exact ⟨_, h3, fun hf => ice_slice h hy h1 h2 hf⟩
  | .tuple l, k, y, hk, hy => by
    unfold frzW at hk
    cases hy with
    | tuple hy =>
      obtain ⟨us, h1, h2⟩ := frzs_sound h hk hy
      exact ⟨_, h1, fun hf => .tuple (h2 (by simpa [AV.drop, AV.free] using hf))⟩
  | .agg l, k, y, hk, hy => by
    unfold frzW at hk
    cases hy with
    | agg hy =>
      obtain ⟨us, h1, h2⟩ := frzs_sound h hk hy
      exact ⟨_, h1, fun hf => .agg (h2 (by simpa [AV.drop, AV.free] using hf))⟩
  | .bool b, k, y, hk, hy => ⟨_, by unfold frzW at hk; exact hk, ice_vr hy⟩
  | .int q n, k, y, hk, hy => ⟨_, by unfold frzW at hk; exact hk, ice_vr hy⟩
  | .str s, k, y, hk, hy => ⟨_, by unfold frzW at hk; exact hk, ice_vr hy⟩
  | .ptr a b, k, y, hk, hy => ⟨_, by unfold frzW at hk; exact hk, ice_vr hy⟩
  | .nilPtr, k, y, hk, hy => ⟨_, by unfold frzW at hk; exact hk, ice_vr hy⟩
  | .nilSlice, k, y, hk, hy => ⟨_, by unfold frzW at hk; exact hk, ice_vr hy⟩
  | .map b, k, y, hk, hy => ⟨_, by unfold frzW at hk; exact hk, ice_vr hy⟩
  | .nilMap, k, y, hk, hy => ⟨_, by unfold frzW at hk; exact hk, ice_vr hy⟩
  | .func a b c, k, y, hk, hy => ⟨_, by unfold frzW at hk; exact hk, ice_vr hy⟩
  | .yield b, k, y, hk, hy => ⟨_, by unfold frzW at hk; exact hk, ice_vr hy⟩
  | .nilFunc, k, y, hk, hy => ⟨_, by unfold frzW at hk; exact hk, ice_vr hy⟩
  | .nilIface, k, y, hk, hy => ⟨_, by unfold frzW at hk; exact hk, ice_vr hy⟩
  | .vs a b c d e f, k, y, hk, hy => ⟨_, by unfold frzW at hk; exact hk, ice_vr hy⟩
  | .vptr a b, k, y, hk, hy => ⟨_, by unfold frzW at hk; exact hk, ice_vr hy⟩
  | .gptr a b, k, y, hk, hy => ⟨_, by unfold frzW at hk; exact hk, ice_vr hy⟩
  | .iface a b, k, y, hk, hy => ⟨_, by unfold frzW at hk; exact hk, ice_vr hy⟩
theorem frzs_sound {ρ : Names} {st : St} {w : World} (h : HR ρ st w) : ∀ {l : List AV} {k : List AV → Prop} {ys : List Value}, frzsW st l k → VRs ρ l ys → ∃ us, k us ∧ (AV.frees (AV.drops us) = true → VRs (ρ.ice st w) (AV.drops us) ys)
  | [], k, ys, hk, hy => by
    unfold frzsW at hk
    cases hy
    exact ⟨[], hk, fun _ => .nil⟩
  | v :: l, k, ys, hk, hy => by
    unfold frzsW at hk
    cases hy with
    | cons hv ht =>
      obtain ⟨u, h1, h2⟩ := frz_sound h hk hv
      obtain ⟨us, h3, h4⟩ := frzs_sound h h1 ht
      refine ⟨_, h3, fun hf => ?_⟩
      simp only [AV.drops, AV.frees, ifb_eq] at hf
      split at hf
      · rename_i h0; exact .cons (h2 h0) (h4 hf)
      · cases hf
end

/-- What is answered from nothing, told as a value, is answered anywhere. -/
theorem CallS.liftF {f : FuncId} {args : List AV} {x v : AV} {st1 : St} {b : Bool} (h : CallS P f args (stE b) x st1) (ha : AV.frees args = true) (hk : frzW st1 x fun u => AV.free (AV.drop u) = true ∧ Wk (AV.drop u) v) (st : St) : CallS P f args st v st := by
  refine ⟨h.1, fun ρ w args' cs hH hA => ?_⟩
  have hE : HR ⟨fun _ => none, ρ.mem⟩ (stE b) w :=
    ⟨(fun b L h => by cases h), (fun b o h => by simp [stE, Tr.get] at h), (fun b b' o o' L L' h => by simp [stE, Tr.get] at h), hH.mem, (fun a i v h b o L hb => by simp [stE, Tr.get] at hb), (fun g l h => by simp [stE, Tr.get] at h)⟩
  obtain ⟨ρ1, w1, v', fr', G, H, V, s, l⟩ := h.2 _ w args' cs hE (VRs.free (ρ := ρ) (ρ' := ⟨fun _ => none, ρ.mem⟩) (fun _ _ _ h => h) hA ha)
  have hb : Below w.heap.size w w1 := ⟨G.os, G.tape, G.output, G.size, fun k hk => G.same k hk fun b o L hb => by simp [stE, Tr.get] at hb⟩
  have hnew : ∀ a i v, (ρ1.ice st1 w1).mem a i = some v → ρ.mem a i = some v ∨ w.heap.size ≤ a := fun a i v hv => by
    rcases ice_inv hv with hv | ⟨⟨b1, cs1, e1, L1, g1, g2, g3, g4⟩, _⟩
    · rcases G.grew a i v hv with h1 | h1 | ⟨b, o, L, h1, _⟩
      · exact .inl h1
      · exact .inr h1
      · simp [stE, Tr.get] at h1
    · rcases Nat.lt_or_ge a w.heap.size with q | q
      · obtain ⟨b0, o0, L0, q1, _⟩ := G.img b1 _ L1 g1 g2 (by rw [g3]; exact q)
        simp [stE, Tr.get] at q1
      · exact .inr q
  have hmem : ∀ a i v, (ρ1.ice st1 w1).mem a i = some v → w1.cell? ⟨a, i, none⟩ = some v := fun a i v hv => by
    rcases ice_inv hv with hv | ⟨_, hv⟩
    · exact H.mem _ _ _ hv
    · exact hv
  have hle : ρ.le ⟨ρ.loc, (ρ1.ice st1 w1).mem⟩ := ⟨fun _ _ h => h, fun a i v hv => ice_mem (G.le.mem a i v hv)⟩
  obtain ⟨u, ⟨k1, k2⟩, k3⟩ := frz_sound H hk V
  obtain ⟨B, C⟩ := hH.beside hb G.drawn
  refine ⟨⟨ρ.loc, (ρ1.ice st1 w1).mem⟩, w1, v', fr', ?_, ?_, k2 _ _ (VR.free (ρ := ρ1.ice st1 w1) (ρ' := ⟨ρ.loc, (ρ1.ice st1 w1).mem⟩) (fun _ _ _ h => h) (k3 k1) k1), s, l⟩
  · refine ⟨hle, Nat.le_refl _, fun _ _ h => .inl h, C.size, C.img, C.same, C.os, C.tape, C.output, C.drawn, fun a i v hv => ?_⟩
    rcases hnew a i v hv with h1 | h1
    · exact .inl h1
    · exact .inr (.inl h1)
  · refine ⟨B.lt, fun b o hb => let ⟨L, h1, h2⟩ := B.obj b o hb; ⟨L, h1, h2.mono hle⟩, B.inj, hmem, fun a i v hv b o L hb hL he => ?_, fun g l hg => let ⟨l', a, c⟩ := hH.glob g l hg; ⟨l', a.mono hle, fun i v hv => hle.mem _ _ _ (c i v hv)⟩⟩
    rcases hnew a i v hv with h1 | h1
    · exact hH.sep a i v h1 b o L hb hL he
    · have := (hH.lt b L hL).2; omega

/-! What is told of an answer. -/
def Tells (u v : AV) : Prop := AV.free (AV.drop u) = true ∧ Wk (AV.drop u) v
theorem tells_free {u : AV} (h : AV.free u = true) (hd : AV.drop u = u) : Tells u u := ⟨by rw [hd]; exact h, by rw [hd]; exact Wk.refl u⟩
theorem tells_lst {α : Type} {E : Enc α} {l : List α} {cs : List AV} {n c e : Nat} {x : Bool} {w : Option Nat} (h : cs = l.flatMap E.f ∧ n = l.length ∧ e = E.e) : Tells (.vs cs n c x w e) (lst E l) := by
  obtain ⟨rfl, rfl, rfl⟩ := h
  refine ⟨by simp [AV.drop, AV.free, E.fdrop, E.ffree], ?_⟩
  simp only [AV.drop, E.fdrop]
  exact wk_vs ⟨rfl, rfl, rfl⟩
theorem tells_own {α : Type} {E : Enc α} {l : List α} {b : Nat} : Tells (own E l b) (lst E l) := tells_lst ⟨rfl, rfl, rfl⟩
theorem tells_nil {α : Type} (E : Enc α) : Tells .nilSlice (lst E []) := ⟨rfl, wk_nil E⟩
def TellsL : List AV → List AV → Prop
  | [], [] => True
  | u :: l, v :: m => Tells u v ∧ TellsL l m
  | _, _ => False
theorem TellsL.both : ∀ {l m : List AV}, TellsL l m → AV.frees (AV.drops l) = true ∧ WkL (AV.drops l) m
  | [], [], _ => ⟨rfl, trivial⟩
  | u :: l, v :: m, ⟨h, t⟩ => by
    obtain ⟨a, b⟩ := TellsL.both t
    exact ⟨by simp only [AV.drops, AV.frees]; rw [h.1, ifb_true]; exact a, h.2, b⟩
  | [], _ :: _, h => h.elim
  | _ :: _, [], h => h.elim
theorem tells_tuple {l m : List AV} (h : TellsL l m) : Tells (.tuple l) (.tuple m) := by
  obtain ⟨a, b⟩ := h.both
  refine ⟨a, fun ρ x hx => ?_⟩
  cases hx with
  | tuple hx => exact .tuple (b.vrs hx)
theorem wk_agg {l m : List AV} (h : WkL l m) : Wk (.agg l) (.agg m) := fun ρ x hx => by
  cases hx with
  | agg hx => exact .agg (h.vrs hx)
theorem tells_agg {l m : List AV} (h : TellsL l m) : Tells (.agg l) (.agg m) := by
  obtain ⟨a, b⟩ := h.both
  exact ⟨a, wk_agg b⟩

/-! Contracts of functions, and tables of them. -/
def CcOk (P : Program) (f : FuncId) (C : CallC) : Prop := ∀ args st Q, C args st Q → ∃ v st', CallS P f args st v st' ∧ Q v st'
noncomputable def lookL {α : Type} : List (Nat × α) → Nat → Option α
  | [], _ => none
  | (g, C) :: l, f => ifb (Nat.beq f g) (some C) (lookL l f)
theorem lookL_mem {α : Type} : ∀ {l : List (Nat × α)} {f : Nat} {C : α}, lookL l f = some C → (f, C) ∈ l
  | [], f, C, h => by cases h
  | (g, G) :: l, f, C, h => by
    simp only [lookL, ifb_eq] at h
    split at h
    · rename_i q
      injection h with h; subst h
      obtain rfl : f = g := of_beq q
      simp
    · exact List.mem_cons_of_mem _ (lookL_mem h)
/-- Calls and loops that are known: loops by the numbers of their first regions, function by function. -/
noncomputable def KL (cs : List (Nat × CallC)) (ls : List (Nat × List (Nat × LoopC))) : Known := { tab := lookL cs, lp := fun f id => ob (lookL ls f) fun l => lookL l id }
theorem KL_ok {cs : List (Nat × CallC)} {ls : List (Nat × List (Nat × LoopC))} (h : ∀ p ∈ cs, CcOk P p.1 p.2) : KnownOk P (KL cs ls) := fun f C args st Q hC hr => h (f, C) (lookL_mem hC) args st Q hr
theorem CallS.wk {f : FuncId} {args args0 : List AV} {st st' : St} {v v' : AV} (h : CallS P f args st v st') (ha : WkL args0 args) (hv : Wk v v') : CallS P f args0 st v' st' := by
  refine ⟨h.1, fun ρ w args' cs hH hA => ?_⟩
  obtain ⟨ρ', w', x, fr', G, H, V, s, l⟩ := h.2 ρ w args' cs hH (ha.vrs hA)
  exact ⟨ρ', w', x, fr', G, H, hv _ _ V, s, l⟩
theorem Val.wk {f : FuncId} {args args0 : List AV} {v : AV} (h : Val P f args v) (ha : WkL args0 args) : Val P f args0 v := fun st => (h st).wk ha (Wk.refl v)
/-- A function of values, from the form of its call. -/
theorem Val.ofF (hm : P.follows .mixedOrders = true) {K : Known} (hK : KnownOk P K) {n : Nat} {f : FuncId} {args : List AV} {v : AV} {b : Bool} {X : (AV → Prop) → Prop} (ha : AV.frees args = true)
    (e : ∀ Q : AV → Prop, (callW P (runW P K n) f args (stE b) fun x st => frzW st x Q) = X Q) (h : X fun u => Tells u v) : Val P f args v := by
  intro st
  have h' : callW P (runW P K n) f args (stE b) (fun x st => frzW st x fun u => Tells u v) := (e _) ▸ h
  obtain ⟨x, st1, h1, h2⟩ := CallS.of_W hm hK n h'
  exact h1.liftF ha h2 st

end Go.Det
