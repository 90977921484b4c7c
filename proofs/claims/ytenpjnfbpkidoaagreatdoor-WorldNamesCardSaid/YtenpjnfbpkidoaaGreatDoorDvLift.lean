/- A function of values: what it answers it answers beside any heap. -/
import Derived.Test.YtenpjnfbpkidoaaGreatDoorDvLaw
set_option linter.unusedVariables false
set_option linter.unusedSimpArgs false
namespace Go.Det
open Go.RowKit
variable {P : Program}

/-! Values that hang on no name. -/
mutual
noncomputable def AV.free : AV → Bool
  | .bool _ | .int _ _ | .str _ | .nilPtr | .nilSlice | .nilMap | .nilFunc | .nilIface | .gptr _ _ => true
  | .ptr _ _ | .slice .. | .map _ | .yield _ => false
  | .func _ a c => ifb (AV.frees a) (AV.frees c) false
  | .agg l | .tuple l => AV.frees l
  | .vs l _ _ _ w _ => ifb (w.isNone) (AV.frees l) false
  | .vptr l _ => AV.frees l
  | .iface _ v => AV.free v
noncomputable def AV.frees : List AV → Bool
  | [] => true
  | v :: l => ifb (AV.free v) (AV.frees l) false
end
mutual
/-- The same value; what may grow behind it is given up. -/
def AV.drop : AV → AV
  | .agg l => .agg (AV.drops l)
  | .tuple l => .tuple (AV.drops l)
  | .vs l n c x w e => .vs (AV.drops l) n c x none e
  | .vptr l o => .vptr (AV.drops l) o
  | .func f a c => .func f (AV.drops a) (AV.drops c)
  | .iface t v => .iface t (AV.drop v)
  | v => v
def AV.drops : List AV → List AV
  | [] => []
  | v :: l => AV.drop v :: AV.drops l
end

theorem drops_length : ∀ l : List AV, (AV.drops l).length = l.length
  | [] => rfl
  | v :: l => by simp [AV.drops, drops_length l]
theorem drop_scalar (v : AV) : (AV.drop v).scalar = v.scalar := by cases v <;> rfl
theorem drops_scalar : ∀ l : List AV, allScalar (AV.drops l) = allScalar l
  | [] => rfl
  | v :: l => by simp only [AV.drops, allScalar, drop_scalar, drops_scalar l]

mutual
theorem VR.dropped {ρ : Names} : ∀ {v : AV} {v' : Value}, VR ρ v v' → VR ρ (AV.drop v) v'
  | _, _, .bool b => .bool b
  | _, _, .int k n => .int k n
  | _, _, .str s => .str s
  | _, _, .ptr h => .ptr h
  | _, _, .nilPtr => .nilPtr
  | _, _, .slice h h1 h2 h3 h4 => .slice h h1 h2 h3 h4
  | _, _, .nilSlice => .nilSlice
  | _, _, .map h => .map h
  | _, _, .nilMap => .nilMap
  | _, _, .func h h' => .func (VRs.dropped h) (VRs.dropped h')
  | _, _, .yield h => .yield h
  | _, _, .nilFunc => .nilFunc
  | _, _, .nilIface => .nilIface
  | _, _, .agg h => .agg (VRs.dropped h)
  | _, _, .tuple h => .tuple (VRs.dropped h)
  | _, _, .vs h hs hn h1 h2 h3 h4 h5 => .vs (VRs.dropped h) (by rw [drops_scalar]; exact hs) (by rw [drops_length]; exact hn) h1 h2 h3 h4 (fun b hb => by cases hb)
  | _, _, .vsNil => .vsNil
  | _, _, .vptr h hs hm => .vptr (VRs.dropped h) (by rw [drops_scalar]; exact hs) hm
  | _, _, .gptr => .gptr
  | _, _, .iface h => .iface (VR.dropped h)
theorem VRs.dropped {ρ : Names} : ∀ {l : List AV} {l' : List Value}, VRs ρ l l' → VRs ρ (AV.drops l) l'
  | _, _, .nil => .nil
  | _, _, .cons h t => .cons (VR.dropped h) (VRs.dropped t)
end
mutual
theorem VR.free {ρ ρ' : Names} (hm : ∀ a i v, ρ.mem a i = some v → ρ'.mem a i = some v) : ∀ {v : AV} {v' : Value}, VR ρ v v' → AV.free v = true → VR ρ' v v'
  | _, _, .bool b, _ => .bool b
  | _, _, .int k n, _ => .int k n
  | _, _, .str s, _ => .str s
  | _, _, .ptr h, hf => by simp [AV.free] at hf
  | _, _, .nilPtr, _ => .nilPtr
  | _, _, .slice h h1 h2 h3 h4, hf => by simp [AV.free] at hf
  | _, _, .nilSlice, _ => .nilSlice
  | _, _, .map h, hf => by simp [AV.free] at hf
  | _, _, .nilMap, _ => .nilMap
  | _, _, .func h h', hf => by
    simp only [AV.free, ifb_none, ifb_eq] at hf
    split at hf
    · rename_i h0; exact .func (VRs.free hm h h0) (VRs.free hm h' hf)
    · cases hf
  | _, _, .yield h, hf => by simp [AV.free] at hf
  | _, _, .nilFunc, _ => .nilFunc
  | _, _, .nilIface, _ => .nilIface
  | _, _, .agg h, hf => .agg (VRs.free hm h (by simpa [AV.free] using hf))
  | _, _, .tuple h, hf => .tuple (VRs.free hm h (by simpa [AV.free] using hf))
  | _, _, .vs (own := own) h hs hn h1 h2 h3 h4 h5, hf => by
    simp only [AV.free, ifb_eq] at hf
    split at hf
    · rename_i h0
      cases own with
      | some b => simp at h0
      | none => exact .vs (VRs.free hm h hf) hs hn h1 h2 h3 (h4.imp id fun h => ⟨h.1, fun i v hv => hm _ _ _ (h.2 i v hv)⟩) (fun b hb => by cases hb)
    · cases hf
  | _, _, .vsNil, _ => .vsNil
  | _, _, .vptr h hs hmm, hf => .vptr (VRs.free hm h (by simpa [AV.free] using hf)) hs (fun i v hv => hm _ _ _ (hmm i v hv))
  | _, _, .gptr, _ => .gptr
  | _, _, .iface h, hf => .iface (VR.free hm h (by simpa [AV.free] using hf))
theorem VRs.free {ρ ρ' : Names} (hm : ∀ a i v, ρ.mem a i = some v → ρ'.mem a i = some v) : ∀ {l : List AV} {l' : List Value}, VRs ρ l l' → AV.frees l = true → VRs ρ' l l'
  | _, _, .nil, _ => .nil
  | _, _, .cons h t, hf => by
    simp only [AV.frees, ifb_eq] at hf
    split at hf
    · rename_i h0; exact .cons (VR.free hm h h0) (VRs.free hm t hf)
    · cases hf
end

/-- Nothing but values: no heap. -/
def stE (b : Bool) : St := { heap := .leaf, next := 0, vm := b }

theorem CallS.lift {f : FuncId} {args : List AV} {v : AV} {st1 : St} {b : Bool} (h : CallS P f args (stE b) v st1) (ha : AV.frees args = true) (hv : AV.free (AV.drop v) = true) (st : St) : CallS P f args st (AV.drop v) st := by
  refine ⟨h.1, fun ρ w args' cs hH hA => ?_⟩
  have hE : HR ⟨fun _ => none, ρ.mem⟩ (stE b) w :=
    ⟨(fun b L h => by cases h), (fun b o h => by simp [stE, Tr.get] at h), (fun b b' o o' L L' h => by simp [stE, Tr.get] at h), hH.mem, (fun a i v h b o L hb => by simp [stE, Tr.get] at hb), (fun g l h => by simp [stE, Tr.get] at h)⟩
  obtain ⟨ρ1, w1, v', fr', G, H, V, s, l⟩ := h.2 _ w args' cs hE (VRs.free (ρ := ρ) (ρ' := ⟨fun _ => none, ρ.mem⟩) (fun _ _ _ h => h) hA ha)
  have hb : Below w.heap.size w w1 := ⟨G.os, G.tape, G.output, G.size, fun k hk => G.same k hk fun b o L hb => by simp [stE, Tr.get] at hb⟩
  have hnew : ∀ a i v, ρ1.mem a i = some v → ρ.mem a i = some v ∨ w.heap.size ≤ a := fun a i v hv => by
    rcases G.grew a i v hv with h1 | h1 | ⟨b, o, L, h1, _⟩
    · exact .inl h1
    · exact .inr h1
    · simp [stE, Tr.get] at h1
  have hle : ρ.le ⟨ρ.loc, ρ1.mem⟩ := ⟨fun _ _ h => h, fun a i v hv => G.le.mem a i v hv⟩
  obtain ⟨B, C⟩ := hH.beside hb
  refine ⟨⟨ρ.loc, ρ1.mem⟩, w1, v', fr', ?_, ?_, VR.free (ρ := ρ1) (ρ' := ⟨ρ.loc, ρ1.mem⟩) (fun _ _ _ h => h) V.dropped hv, s, l⟩
  · refine ⟨hle, Nat.le_refl _, fun _ _ h => .inl h, C.size, C.img, C.same, C.os, C.tape, C.output, fun a i v hv => ?_⟩
    rcases hnew a i v hv with h1 | h1
    · exact .inl h1
    · exact .inr (.inl h1)
  · refine ⟨B.lt, fun b o hb => let ⟨L, h1, h2⟩ := B.obj b o hb; ⟨L, h1, h2.mono hle⟩, B.inj, H.mem, fun a i v hv b o L hb hL he => ?_, fun g l hg => let ⟨l', a, c⟩ := hH.glob g l hg; ⟨l', a.mono hle, fun i v hv => hle.mem _ _ _ (c i v hv)⟩⟩
    rcases hnew a i v hv with h1 | h1
    · exact hH.sep a i v h1 b o L hb hL he
    · have := (hH.lt b L hL).2; omega

end Go.Det
