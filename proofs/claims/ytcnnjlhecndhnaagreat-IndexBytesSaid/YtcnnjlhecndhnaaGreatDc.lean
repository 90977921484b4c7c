/- Part of the proof of IndexBytes. -/
import Derived.Test.YtcnnjlhecndhnaaGreatDb
set_option linter.unusedVariables false
set_option linter.unusedSimpArgs false
set_option linter.constructorNameAsVariable false
namespace Go.Det
open Go.RowKit
variable {P : Program}
mutual
noncomputable def AV.free : AV → Bool
 | .bool _ | .int _ _ | .str _ | .nilPtr | .nilSlice | .nilMap | .nilFunc | .nilIface | .gptr _ _ => true
 | .ptr _ _ | .slice .. | .map _ | .yield _ => false
 | .func _ a c => ifb (AV.frees a) (AV.frees c) false
 | .agg l | .tuple l => AV.frees l
 | .vs l _ _ _ w _ => ifb (w.isNone) (AV.frees l) false
 | .vptr l _ => AV.frees l
 | .iface _ v => AV.free v
noncomputable def AV.frees : List AV → Bool
 | [] => true
 | v :: l => ifb (AV.free v) (AV.frees l) false
end
mutual
def AV.drop : AV → AV
 | .agg l => .agg (AV.drops l)
 | .tuple l => .tuple (AV.drops l)
 | .vs l n c x w e => .vs (AV.drops l) n c x none e
 | .vptr l o => .vptr (AV.drops l) o
 | .func f a c => .func f (AV.drops a) (AV.drops c)
 | .iface t v => .iface t (AV.drop v)
 | v => v
def AV.drops : List AV → List AV
 | [] => []
 | v :: l => AV.drop v :: AV.drops l
end
theorem drops_length : ∀ l : List AV, (AV.drops l).length = l.length
 | [] => rfl
 | v :: l => by simp [AV.drops, drops_length l]
theorem drop_scalar (v : AV) : (AV.drop v).scalar = v.scalar := by cases v <;> rfl
theorem drops_scalar : ∀ l : List AV, allScalar (AV.drops l) = allScalar l
 | [] => rfl
 | v :: l => by simp only [AV.drops, allScalar, drop_scalar, drops_scalar l]
mutual
theorem VR.dropped {ρ : Names} : ∀ {v : AV} {v' : Value}, VR ρ v v' → VR ρ (AV.drop v) v'
 | _, _, .bool b => .bool b
 | _, _, .int k n => .int k n
 | _, _, .str s => .str s
 | _, _, .ptr h => .ptr h
 | _, _, .nilPtr => .nilPtr
 | _, _, .slice h h1 h2 h3 h4 => .slice h h1 h2 h3 h4
 | _, _, .nilSlice => .nilSlice
 | _, _, .map h => .map h
 | _, _, .nilMap => .nilMap
 | _, _, .func h h' => .func (VRs.dropped h) (VRs.dropped h')
 | _, _, .yield h => .yield h
 | _, _, .nilFunc => .nilFunc
 | _, _, .nilIface => .nilIface
 | _, _, .agg h => .agg (VRs.dropped h)
 | _, _, .tuple h => .tuple (VRs.dropped h)
 | _, _, .vs h hs hn h1 h2 h3 h4 h5 => .vs (VRs.dropped h) (by rw [drops_scalar]; exact hs) (by rw [drops_length]; exact hn) h1 h2 h3 h4 (fun b hb => by cases hb)
 | _, _, .vsNil => .vsNil
 | _, _, .vptr h hs hm => .vptr (VRs.dropped h) (by rw [drops_scalar]; exact hs) hm
 | _, _, .gptr => .gptr
 | _, _, .iface h => .iface (VR.dropped h)
theorem VRs.dropped {ρ : Names} : ∀ {l : List AV} {l' : List Value}, VRs ρ l l' → VRs ρ (AV.drops l) l'
 | _, _, .nil => .nil
 | _, _, .cons h t => .cons (VR.dropped h) (VRs.dropped t)
end
mutual
theorem VR.free {ρ ρ' : Names} (hm : ∀ a i v, ρ.mem a i = some v → ρ'.mem a i = some v) : ∀ {v : AV} {v' : Value}, VR ρ v v' → AV.free v = true → VR ρ' v v'
 | _, _, .bool b, _ => .bool b
 | _, _, .int k n, _ => .int k n
 | _, _, .str s, _ => .str s
 | _, _, .ptr h, hf => by simp [AV.free] at hf
 | _, _, .nilPtr, _ => .nilPtr
 | _, _, .slice h h1 h2 h3 h4, hf => by simp [AV.free] at hf
 | _, _, .nilSlice, _ => .nilSlice
 | _, _, .map h, hf => by simp [AV.free] at hf
 | _, _, .nilMap, _ => .nilMap
 | _, _, .func h h', hf => by
  simp only [AV.free, ifb_none, ifb_eq] at hf
  split at hf
  ·rename_i h0; exact .func (VRs.free hm h h0) (VRs.free hm h' hf)
  ·cases hf
 | _, _, .yield h, hf => by simp [AV.free] at hf
 | _, _, .nilFunc, _ => .nilFunc
 | _, _, .nilIface, _ => .nilIface
 | _, _, .agg h, hf => .agg (VRs.free hm h (by simpa [AV.free] using hf))
 | _, _, .tuple h, hf => .tuple (VRs.free hm h (by simpa [AV.free] using hf))
 | _, _, .vs (own := own) h hs hn h1 h2 h3 h4 h5, hf => by
  simp only [AV.free, ifb_eq] at hf
  split at hf
  ·rename_i h0
   cases own with
   | some b => simp at h0
   | none => exact .vs (VRs.free hm h hf) hs hn h1 h2 h3 (h4.imp id fun h => ⟨h.1, fun i v hv => hm _ _ _ (h.2 i v hv)⟩) (fun b hb => by cases hb)
  ·cases hf
 | _, _, .vsNil, _ => .vsNil
 | _, _, .vptr h hs hmm, hf => .vptr (VRs.free hm h (by simpa [AV.free] using hf)) hs (fun i v hv => hm _ _ _ (hmm i v hv))
 | _, _, .gptr, _ => .gptr
 | _, _, .iface h, hf => .iface (VR.free hm h (by simpa [AV.free] using hf))
theorem VRs.free {ρ ρ' : Names} (hm : ∀ a i v, ρ.mem a i = some v → ρ'.mem a i = some v) : ∀ {l : List AV} {l' : List Value}, VRs ρ l l' → AV.frees l = true → VRs ρ' l l'
 | _, _, .nil, _ => .nil
 | _, _, .cons h t, hf => by
  simp only [AV.frees, ifb_eq] at hf
  split at hf
  ·rename_i h0; exact .cons (VR.free hm h h0) (VRs.free hm t hf)
  ·cases hf
end
def stE (b : Bool) : St := { heap := .leaf, next := 0, vm := b }
theorem CallS.lift {f : FuncId} {args : List AV} {v : AV} {st1 : St} {b : Bool} (h : CallS P f args (stE b) v st1) (ha : AV.frees args = true) (hv : AV.free (AV.drop v) = true) (st : St) : CallS P f args st (AV.drop v) st := by
 refine ⟨h.1, fun ρ w args' cs hH hA => ?_⟩
 have hE : HR ⟨fun _ => none, ρ.mem⟩ (stE b) w :=
  ⟨(fun b L h => by cases h), (fun b o h => by simp [stE, Tr.get] at h), (fun b b' o o' L L' h => by simp [stE, Tr.get] at h), hH.mem, (fun a i v h b o L hb => by simp [stE, Tr.get] at hb), (fun g l h => by simp [stE, Tr.get] at h)⟩
 obtain ⟨ρ1, w1, v', fr', G, H, V, s, l⟩ := h.2 _ w args' cs hE (VRs.free (ρ := ρ) (ρ' := ⟨fun _ => none, ρ.mem⟩) (fun _ _ _ h => h) hA ha)
 have hb : Below w.heap.size w w1 := ⟨G.os, G.tape, G.output, G.size, fun k hk => G.same k hk fun b o L hb => by simp [stE, Tr.get] at hb⟩
 have hnew : ∀ a i v, ρ1.mem a i = some v → ρ.mem a i = some v ∨ w.heap.size ≤ a := fun a i v hv => by
  rcases G.grew a i v hv with h1 | h1 | ⟨b, o, L, h1, _⟩
  ·exact .inl h1
  ·exact .inr h1
  ·simp [stE, Tr.get] at h1
 have hle : ρ.le ⟨ρ.loc, ρ1.mem⟩ := ⟨fun _ _ h => h, fun a i v hv => G.le.mem a i v hv⟩
 obtain ⟨B, C⟩ := hH.beside hb G.drawn
 refine ⟨⟨ρ.loc, ρ1.mem⟩, w1, v', fr', ?_, ?_, VR.free (ρ := ρ1) (ρ' := ⟨ρ.loc, ρ1.mem⟩) (fun _ _ _ h => h) V.dropped hv, s, l⟩
 ·refine ⟨hle, Nat.le_refl _, fun _ _ h => .inl h, C.size, C.img, C.same, C.os, C.tape, C.output, C.drawn, fun a i v hv => ?_⟩
  rcases hnew a i v hv with h1 | h1
  ·exact .inl h1
  ·exact .inr (.inl h1)
 ·refine ⟨B.lt, fun b o hb => let ⟨L, h1, h2⟩ := B.obj b o hb; ⟨L, h1, h2.mono hle⟩, B.inj, H.mem, fun a i v hv b o L hb hL he => ?_, fun g l hg => let ⟨l', a, c⟩ := hH.glob g l hg; ⟨l', a.mono hle, fun i v hv => hle.mem _ _ _ (c i v hv)⟩⟩
  rcases hnew a i v hv with h1 | h1
  ·exact hH.sep a i v h1 b o L hb hL he
  ·have := (hH.lt b L hL).2; omega
end Go.Det
noncomputable section
namespace Go.Det
def CodeS (P : Program) (ro : Option Nat) (fn : FuncId) (nt : Nat) (c : Code) (T : Tr AV) (D : List ADef) (st : St) (o : Out) : Prop :=
 ∀ ρ w tm df b k cs, HR ρ st w → TR ρ nt T tm → DRs ρ D df → b.fn = fn → RoR ρ ro b.roundOf → Ran P nt ρ st w o (lone (on b tm df (.code c :: k)) cs w) b k cs
def ifp (b : Bool) (x y : Prop) : Prop := Bool.rec y x b
def obW {α : Type} (o : Option α) (k : α → Prop) : Prop := Option.rec False (fun a => k a) o
abbrev CallC := List AV → St → (AV → St → Prop) → Prop
abbrev LoopC := Option Nat → Nat → Tr AV → List ADef → St → (Out → Prop) → Prop
def LoopOk (P : Program) (fn : FuncId) (nt : Nat) (c : Code) (C : LoopC) : Prop := ∀ ro T D st Q, C ro nt T D st Q → ∃ o, CodeS P ro fn nt c T D st o ∧ Q o
structure Known where
 tab : FuncId → Option CallC
 lp : FuncId → Nat → Option LoopC
 eqs : Bool := false
 sym : TypeId → Bool := fun _ => false
 eqAt : FuncId → Nat → Bool := fun _ _ => false
 neAt : FuncId → Nat → Bool := fun _ _ => false
 ltAt : FuncId → Nat → Bool := fun _ _ => false
structure Flags where
 eqs : Bool
 sym : TypeId → Bool
 ns : Bool := false
 nes : Bool := false
 lts : Bool := false
structure RecW where
 code : Option Nat → FuncId → Nat → Code → Tr AV → List ADef → St → (Out → Prop) → Prop
 call : FuncId → List AV → St → (AV → St → Prop) → Prop
 fl : Flags
def putW (nt : Nat) (T : Tr AV) (dst : Option Tmp) (v : AV) (k : Tr AV → Prop) : Prop :=
 Option.rec (k T) (fun d => ifp (Nat.ble (Nat.succ d) nt) (k (T.set d v)) False) dst
def cellsW (l : List AV) (o : Nat) (k : AV → Prop) : TypeDesc → Prop
 | .int q => ∃ x : Int, nth o l = some (.int q x) ∧ k (.int q x)
 | .bool => ∃ b : Bool, nth o l = some (.bool b) ∧ k (.bool b)
 | .string => ∃ s : ByteArray, nth o l = some (.str s) ∧ k (.str s)
 | .slice _ => ∃ (l' : List AV) (n c : Nat) (x : Bool) (w : Option Nat) (e : Nat), nth o l = some (.vs l' n c x w e) ∧ k (.vs l' n c x w e)
 | _ => ∃ v, nth o l = some v ∧ k v
def fieldsW (P : Program) (l : List AV) (o : Nat) (k : List AV → Prop) : List Field → Prop
 | [] => k []
 | f :: fs => obW (P.underlying f.type) fun d => ifp (match d with | .struct _ | .array _ _ => true | _ => false) False (cellsW l (Nat.add o f.offset) (fun v => fieldsW P l o (fun vs => k (v :: vs)) fs) d)
def offsOk (o : Nat) : List Field → Bool
 | [] => true
 | f :: fs => ifb (Nat.beq f.offset o) (offsOk (Nat.succ o) fs) false
def readW (P : Program) (t : TypeId) (l : List AV) (o : Nat) (k : AV → Prop) : Prop :=
 obW (P.underlying t) fun d =>
 match d with
 | .struct fs => obW (szT P t) fun n => ifp (and (Nat.ble 1 n) (and (Nat.beq fs.toList.length n) (offsOk 0 fs.toList))) (fieldsW P l o (fun vs => k (.agg vs)) fs.toList) False
 | .array _ _ => False
 | d => cellsW l o k d
def rowW (st : St) (b : Nat) (k : List AV → TypeId → Prop) : Prop := obW (rowOf st b) fun r => Prod.rec (fun cs e => k cs e) r
def loadW (P : Program) (sym : TypeId → Bool) (st : St) (t : TypeId) (a : AV) (k : AV → Prop) : Prop :=
 match a with
 | .ptr b o => rowW st b fun cs e => ifp (sym e) (readW P t cs o k) (obW (partA P t cs o) k)
 | .vptr l o => readW P t l o k
 | .gptr g o => obW (st.gl.get g) fun l => obW (partA P t l o) k
 | _ => False
def setAt (o : Nat) (xs l : List AV) : List AV := l.take o ++ xs ++ l.drop (o + xs.length)
def storeW (P : Program) (sym : TypeId → Bool) (st : St) (t : TypeId) (a v : AV) (k : St → Prop) : Prop :=
 match a with
 | .ptr b o => obW (szT P t) fun n => ifp (and (Nat.beq v.cells.length n) (allScalar v.cells))
   (rowW st b fun cs e => ifp (sym e) (Nat.add o v.cells.length ≤ cs.length ∧ k (st.put b (.row (setAt o v.cells cs) e))) (obW (overAt o v.cells cs) fun cs' => k (st.put b (.row cs' e)))) False
 | _ => False
def fieldsEqW (P : Program) (eq : TypeId → AV → AV → (Bool → Prop) → Prop) (xs ys : List AV) (k : Bool → Prop) : List Field → Prop
  | [] => k true
  | f :: fs =>
    ifp (f.name == "_") (fieldsEqW P eq xs ys k fs)
      (obW (partA P f.type xs f.offset) fun a => obW (partA P f.type ys f.offset) fun b =>
       eq f.type a b fun r => ifp r (fieldsEqW P eq xs ys k fs) (k false))
def eqW (P : Program) : Nat → TypeId → AV → AV → (Bool → Prop) → Prop
 | 0, _, _, _, _ => False
 | d + 1, t, x, y, k =>
  match x, y with
  | .agg xs, .agg ys => obW (P.underlying t) fun u => (match u with | .struct fields => ifp (P.stoodInHeld t) False (fieldsEqW P (eqW P d) xs ys k fields.toList) | _ => False)
  | x, y => obW (eqA P (d + 1) t x y) k
def fieldsYesW (P : Program) (eq : TypeId → AV → AV → Prop) (xs ys : List AV) : List Field → Prop
 | [] => True
 | f :: fs =>
  ifp (f.name == "_") (fieldsYesW P eq xs ys fs)
   (obW (partA P f.type xs f.offset) fun a => obW (partA P f.type ys f.offset) fun b => eq f.type a b ∧ fieldsYesW P eq xs ys fs)
def yesW (P : Program) : Nat → TypeId → AV → AV → Prop
 | 0, _, _, _ => False
 | d + 1, t, x, y =>
  match x, y with
  | .agg xs, .agg ys => obW (P.underlying t) fun u => (match u with | .struct fields => ifp (P.stoodInHeld t) False (fieldsYesW P (yesW P d) xs ys fields.toList) | _ => False)
  | .int j a, .int j' b => obW (P.underlying t) fun u => (match u with | .int _ => ifp (eqKind j j') (a = b) False | _ => False)
  | .bool a, .bool b => obW (P.underlying t) fun u => (match u with | .bool => a = b | _ => False)
  | x, y => eqA P (d + 1) t x y = some true
def binYesW (P : Program) (op : BinOp) (t : TypeId) (x y : AV) (k : AV → Prop) : Prop :=
 match op with
 | .eql => yesW P 10000 t x y ∧ k (.bool true)
 | .neq => yesW P 10000 t x y ∧ k (.bool false)
 | _ => False
def shlV (k : IntKind) (x y : Int) : Int := wrapF k (Int.mul x (.ofNat (Nat.pow 2 (ifb (Nat.ble (natOf y) (bitsOf k)) (natOf y) (bitsOf k)))))
def shrV (k : IntKind) (x y : Int) : Int := Int.fdiv x (.ofNat (Nat.pow 2 (ifb (Nat.ble (natOf y) (bitsOf k)) (natOf y) (bitsOf k))))
def binW (P : Program) (op : BinOp) (t : TypeId) (x y : AV) (k : AV → Prop) : Prop :=
 match op, x, y with
 | .shl, .int j a, .int _ b => 0 ≤ b ∧ k (.int j (shlV j a b))
 | .shr, .int j a, .int _ b => 0 ≤ b ∧ k (.int j (shrV j a b))
 | .quo, .int j a, .int j' b => ifp (eqKind j j') (b ≠ 0 ∧ k (.int j (wrapF j (Int.tdiv a b)))) False
 | .rem, .int j a, .int j' b => ifp (eqKind j j') (b ≠ 0 ∧ k (.int j (Int.tmod a b))) False
 | .eql, .agg xs, .agg ys => eqW P 10000 t (.agg xs) (.agg ys) fun b => k (.bool b)
 | .neq, .agg xs, .agg ys => eqW P 10000 t (.agg xs) (.agg ys) fun b => k (.bool (not b))
 | .eql, .vs _ n _ _ _ _, .nilSlice => obW (P.underlying t) fun d => (match d with | .slice _ => n ≠ 0 ∧ k (.bool false) | _ => False)
 | .neq, .vs _ n _ _ _ _, .nilSlice => obW (P.underlying t) fun d => (match d with | .slice _ => n ≠ 0 ∧ k (.bool true) | _ => False)
 | op, x, y => obW (binA P op t x y) k
def idxOk (z : Int) (n : Nat) : Prop := 0 ≤ z ∧ z < (n : Int)
def indexAddrW (P : Program) (t : TypeId) (x i : AV) (k : AV → Prop) : Prop :=
 match x, i with
 | .vs l len _ _ _ e, .int _ z => obW (P.underlying t) fun d => (match d with
  | .slice elem => obW (szT P elem) fun s => ifp (Nat.beq s e) (idxOk z len ∧ k (.vptr l (Nat.mul (natOf z) s))) False
  | _ => False)
 | .slice b o len _ _ e, .int _ z => obW (P.underlying t) fun d => (match d with
  | .slice elem => obW (szT P elem) fun s => ifp (Nat.beq s e) (idxOk z len ∧ k (.ptr b (Nat.add o (Nat.mul (natOf z) s)))) False
  | _ => False)
 | x, i => obW (indexAddrA P t x i) k
def natW (v : Option AV) (d y : Nat) (k : Nat → Prop) : Prop :=
 match v with
 | none => k d
 | some (.int _ z) => 0 ≤ z ∧ z ≤ (y : Int) ∧ k (natOf z)
 | some _ => False
def hiMx (hi mx : Option AV) : Bool :=
 match hi, mx with
 | none, some _ => false
 | _, _ => true
def mxEx (mx : Option AV) (ex : Bool) : Bool := Option.rec ex (fun _ => true) mx
def sliceW (P : Program) (st : St) (t : TypeId) (x : AV) (lo hi mx : Option AV) (k : AV → Prop) : Prop :=
 match x with
 | .vs l len cap ex _ e => obW (P.underlying t) fun d => (match d with
  | .slice elem => obW (szT P elem) fun s => ifp (and (Nat.beq s e) (hiMx hi mx))
    (natW mx cap cap fun m => natW hi len m fun h => natW lo 0 h fun lo => h ≤ len ∧ l.length = Nat.mul len e ∧
     k (.vs ((l.drop (Nat.mul lo s)).take (Nat.mul (Nat.sub h lo) s)) (Nat.sub h lo) (Nat.sub m lo) (mxEx mx ex) none e)) False
  | _ => False)
 | .slice b o len cap ex e => obW (P.underlying t) fun d => (match d with
  | .slice elem => obW (szT P elem) fun s => ifp (and (Nat.beq s e) (hiMx hi mx))
    (natW mx cap cap fun m => natW hi len m fun h => natW lo 0 h fun lo => k (.slice b (Nat.add o (Nat.mul lo s)) (Nat.sub h lo) (Nat.sub m lo) (mxEx mx ex) e)) False
  | _ => False)
 | .nilSlice => (match mx with
  | none => obW (sliceOpA P st t .nilSlice lo hi none) k
  | some c => obW (P.underlying t) fun d => (match d with
   | .slice elem => obW (szT P elem) fun _ => ifp (hiMx hi (some c)) (natW (some c) 0 0 fun m => natW hi 0 m fun h => natW lo 0 h fun _ => k .nilSlice) False
   | _ => False))
 | x => obW (sliceOpA P st t x lo hi mx) k
def newW (st : St) (i : TypeInfo) (z : AV) (zs : Bool) (x : AV) (k : Nat → List AV → Prop) : Prop :=
 match x with
 | .vs l n _ _ _ e => ifp (and (not zs) (Nat.beq e i.size)) (l.length = Nat.mul n e ∧ k n l) False
 | .slice b o n _ _ e => ifp (and (not zs) (Nat.beq e i.size)) (rowW st b fun cs _ => Nat.add o (Nat.mul n e) ≤ cs.length ∧ k n ((cs.drop o).take (Nat.mul n e))) False
 | .int q n => ifp zs (0 ≤ n ∧ n ≤ 16777216 ∧ roomy (natOf n) i.bytes = true ∧ k (natOf n) (repl (natOf n) z.cells)) False
 | x => obW (newCells st i z zs x) fun q => Prod.rec (fun n cs => k n cs) q
def ontoW (sym : TypeId → Bool) (st : St) (i : TypeInfo) (el : TypeId) (s : AV) (n : Nat) (cs : List AV) (k : AV → St → Prop) (els : Prop) : Prop :=
  match s with
  | .nilSlice => ifp (and st.vm (not (st.rw el))) (ifp (Nat.beq n 0) (k .nilSlice st) (ifp (roomy n i.bytes) (k (.vs cs n n false (some st.next) i.size) (st.new .spare)) False))
      (ifp (sym el) (n ≠ 0 ∧ roomy n i.bytes = true ∧ k (.slice st.next 0 n n false i.size) (st.new (.row cs el))) els)
  | .vs l len cap ex own e => ifp (Nat.beq e i.size)
      (match own with
       | some b => ifp (roomy (Nat.add len n) i.bytes) (obW (spareOf st b) fun _ => k (.vs (l ++ cs) (Nat.add len n) (Nat.add len n) false (some st.next) e) ((st.del b).new .spare)) False
       | none => ifp (Nat.beq n 0) (k (.vs l len cap ex none e) st) (ifp (roomy (Nat.add len n) i.bytes)
          (ifp (and ex (Nat.beq cap len)) (k (.vs (l ++ cs) (Nat.add len n) (Nat.add len n) false (some st.next) e) (st.new .spare)) False)
          False)) False
  | .slice b o len cap ex e => rowW st b fun rc te => ifp (and (sym te) (Nat.beq e i.size))
      (ifp ex (cap < Nat.add len n ∧ o = 0 ∧ Nat.mul len e = rc.length ∧ roomy (Nat.add len n) i.bytes = true ∧ k (.slice st.next 0 (Nat.add len n) (Nat.add len n) false e) (st.new (.row (rc ++ cs) el)))
      ((cap < Nat.add len n ∧ o = 0 ∧ Nat.mul len e = rc.length ∧ roomy (Nat.add len n) i.bytes = true ∧ k (.slice st.next 0 (Nat.add len n) (Nat.add len n) false e) ((st.del b).new (.row (rc ++ cs) el))) ∨
       (Nat.add len n ≤ cap ∧ n ≠ 0 ∧ Nat.add (Nat.add o (Nat.mul len e)) cs.length ≤ rc.length ∧ k (.slice b o (Nat.add len n) cap ex e) (st.put b (.row (setAt (Nat.add o (Nat.mul len e)) cs rc) te))))) els
  | _ => els
def appendW (P : Program) (sym : TypeId → Bool) (st : St) (sT : TypeId) (xT : Option TypeId) (s x : AV) (k : AV → St → Prop) : Prop :=
 obW (P.underlying sT) fun d => (match d with
  | .slice elem => obW (P.info? elem) fun i => obW (zeroT P elem) fun z => obW (zerosT P xT) fun zs =>
   newW st i z zs x fun n cs => ifp (and (allScalar cs) (Nat.beq z.cells.length i.size)) (ontoW sym st i elem s n cs k (obW (appendA P st sT xT s x) fun p => Prod.rec (fun v st => k v st) p)) False
  | _ => False)
def srcW (st : St) (size n : Nat) (x : AV) (k : List AV → Prop) : Prop :=
 match x with
 | .slice b o _ _ _ e => ifp (Nat.beq e size) (rowW st b fun cs _ => Nat.add o (Nat.mul n size) ≤ cs.length ∧ k ((cs.drop o).take (Nat.mul n size))) False
 | .vs l _ _ _ _ e => ifp (Nat.beq e size) (Nat.mul n size ≤ l.length ∧ k (l.take (Nat.mul n size))) False
 | x => obW (srcCells st size n x) k
def minN (m k : Nat) : Nat := ifb (Nat.ble m k) m k
def copyW (P : Program) (st : St) (dT : TypeId) (d s : AV) (k : AV → St → Prop) : Prop :=
 match d with
 | .slice b o _ _ _ e' => obW (P.underlying dT) fun u => (match u with
  | .slice elem => obW (szT P elem) fun e => obW (lenA s) fun m => obW (lenA d) fun n => ifp (Nat.beq e e')
    (srcW st e (minN m n) s fun cs => rowW st b fun rc te => ifp (allScalar cs) (Nat.add o cs.length ≤ rc.length ∧ k (.int .i64 (.ofNat (minN m n))) (st.put b (.row (setAt o cs rc) te))) False) False
  | _ => False)
 | d => obW (copyA P st dT d s) fun p => Prod.rec (fun v st => k v st) p
def isAppend : Callee → Bool
 | .builtin .append => true
 | _ => false
def isCopy : Callee → Bool
 | .builtin .copy => true
 | _ => false
def makeW (P : Program) (vm : Bool) (name : Nat) (t : TypeId) (l c : AV) (k : AV → Ob → Prop) : Prop :=
 match l, c with
 | .int _ n, .int _ m => obW (P.underlying t) fun u => (match u with
  | .slice elem => obW (P.info? elem) fun i => obW (zeroT P elem) fun z => ifp (and (Nat.beq z.cells.length i.size) (allScalar z.cells))
    (0 ≤ n ∧ n ≤ m ∧ m ≤ 16777216 ∧ roomy (natOf m) i.bytes = true ∧
     ifp vm (n = 0 ∧ k (.vs [] 0 (natOf m) true (some name) i.size) .spare) (k (.slice name 0 (natOf n) (natOf m) true i.size) (.row (repl (natOf m) z.cells) elem))) False
  | _ => False)
 | _, _ => False
def freshW (P : Program) (vm : Bool) (T : Tr AV) (name : Nat) (op : Op) (k : AV → Ob → Prop) : Prop :=
 match op with
 | .makeSlice t l c => obW (opd T l) fun a => obW (opd T c) fun b => makeW P (and vm (isZeroO l)) name t a b k
 | op => obW (freshA P vm T name op) fun q => Prod.rec (fun v o => k v o) q
def optV (z : AV) (r : Option (Nat × AV)) : AV := Option.rec z (fun p => p.2) r
def lookIs (k : AV) (es : List AEntry) (z v : AV) (b : Bool) : Prop := ∃ r, findA k es 0 = some r ∧ optV z r = v ∧ r.isSome = b
def updIs (k v : AV) (es : List AEntry) (c : Nat) (es' : List AEntry) (c' : Nat) : Prop :=
 ∃ r, findA k es 0 = some r ∧ (match r with | some p => es' = setEntry v p.1 es ∧ c' = c | none => es' = es ++ [⟨k, v, c⟩] ∧ c' = Nat.succ c)
def entIs (k : AV) (es : List AEntry) (c : Nat) (z v : AV) (n : Nat) (es' : List AEntry) (c' : Nat) : Prop :=
 ∃ r, findA k es 0 = some r ∧ (match r with | some p => v = p.2 ∧ (∃ e, nth p.1 es = some e ∧ n = e.born) ∧ es' = es ∧ c' = c | none => v = z ∧ n = c ∧ es' = es ++ [⟨k, z, c⟩] ∧ c' = Nat.succ c)
def stIs (n : Nat) (v : AV) (es es' : List AEntry) : Prop := n ≤ 9223372036854775807 ∧ ∃ i, findBorn n es 0 = some i ∧ es' = setEntry v i es
def delIs (k : AV) (es es' : List AEntry) : Prop := ∃ r, findA k es 0 = some r ∧ es' = (match r with | some p => dropEntry p.1 es | none => es)
def valW (R : AV → Prop) (k : AV → Prop) : TypeDesc → Prop
 | .int q => ∃ x : Int, R (.int q x) ∧ k (.int q x)
 | .bool => ∃ b : Bool, R (.bool b) ∧ k (.bool b)
 | .string => ∃ s : ByteArray, R (.str s) ∧ k (.str s)
 | .slice _ => ∃ (l' : List AV) (n c : Nat) (x : Bool) (w : Option Nat) (e : Nat), R (.vs l' n c x w e) ∧ k (.vs l' n c x w e)
 | _ => ∃ v, R v ∧ k v
def mapW (P : Program) (sym : TypeId → Bool) (st : St) (t : TypeId) (m k : AV) (els : Prop) (kk : Nat → List AEntry → Nat → TypeId → Prop) : Prop :=
 match m with
 | .map b => ifp (sym t) (obW (P.underlying t) fun d => (match d with
   | .map key elem => ifp (keyKind P key k) (obW (mapOf st b) fun q => Prod.rec (fun es c => kk b es c elem) q) False
   | _ => False)) els
 | _ => els
def lookupW (P : Program) (sym : TypeId → Bool) (st : St) (t : TypeId) (m k : AV) (ok : Bool) (Q : AV → Prop) : Prop :=
 mapW P sym st t m k (obW (lookupA P st t m k ok) Q) fun _ es _ elem =>
  obW (zeroT P elem) fun z => obW (P.underlying elem) fun d => ∃ c : Bool, valW (fun v => lookIs k es z v c) (fun v => Q (ifb ok (.tuple [v, .bool c]) v)) d
def mapUpdateW (P : Program) (sym : TypeId → Bool) (st : St) (t : TypeId) (m k v : AV) (Q : St → Prop) : Prop :=
 mapW P sym st t m k (obW (mapUpdateA P st t m k v) Q) fun b es c _ => ∃ es' c', updIs k v es c es' c' ∧ Q (st.put b (.map es' c'))
def mapEntryW (P : Program) (sym : TypeId → Bool) (st : St) (t : TypeId) (m k : AV) (Q : AV → St → Prop) : Prop :=
 mapW P sym st t m k (obW (mapEntryA P st t m k) fun p => Prod.rec (fun v s => Q v s) p) fun b es c elem =>
  obW (zeroT P elem) fun z => obW (P.underlying elem) fun d => ∃ (n : Nat) (es' : List AEntry) (c' : Nat), valW (fun v => entIs k es c z v n es' c') (fun v => Q (.tuple [v, .int .i64 (.ofNat n)]) (st.put b (.map es' c'))) d
def entryStoreW (sym : TypeId → Bool) (st : St) (t : TypeId) (m s v : AV) (Q : St → Prop) : Prop :=
 match m, s with
 | .map b, .int _ (.ofNat n) => ifp (sym t) (obW (mapOf st b) fun q => Prod.rec (fun es c => ∃ es', stIs n v es es' ∧ Q (st.put b (.map es' c))) q) (obW (entryStoreA st m s v) Q)
 | m, s => obW (entryStoreA st m s v) Q
def deleteW (P : Program) (sym : TypeId → Bool) (st : St) (t : TypeId) (m k : AV) (Q : St → Prop) : Prop :=
 mapW P sym st t m k (obW (deleteA P st t m k) Q) fun b es c _ => ∃ es', delIs k es es' ∧ Q (st.put b (.map es' c))
def isDelete : Callee → Bool
 | .builtin .delete => true
 | _ => false
def nilish : AV → Bool
 | .nilPtr | .nilSlice | .nilMap | .nilFunc | .nilIface => true
 | _ => false
def isNe : BinOp → Bool
 | .neq => true
 | _ => false
def isLt : BinOp → Bool
 | .lss | .leq | .gtr | .geq | .eql => true
 | _ => false
def ltYesW (op : BinOp) (x y : AV) (k : AV → Prop) : Prop :=
 match op, x, y with
 | .lss, .int j a, .int j' b => ifp (eqKind j j') (a < b ∧ k (.bool true)) False
 | .leq, .int j a, .int j' b => ifp (eqKind j j') (a ≤ b ∧ k (.bool true)) False
 | .gtr, .int j a, .int j' b => ifp (eqKind j j') (b < a ∧ k (.bool true)) False
 | .geq, .int j a, .int j' b => ifp (eqKind j j') (b ≤ a ∧ k (.bool true)) False
 | .eql, .int j a, .int j' b => ifp (eqKind j j') (a ≠ b ∧ k (.bool false)) False
 | _, _, _ => False
def aopW (fl : Flags) (P : Program) (T : Tr AV) (st : St) (op : Op) (kv : AV → St → Prop) (kc : FuncId → List AV → Prop) (ky : Nat → List AV → Prop) (kd : FuncId → List AV → Prop) : Prop :=
 match op with
 | .load t a => obW (opd T a) fun a => loadW P fl.sym st t a fun v => kv v st
 | .store t a v => obW (opd T a) fun a => obW (opd T v) fun v => storeW P fl.sym st t a v fun st' => kv undefA st'
 | .makeSlice t l c => freshW P st.vm T st.next (.makeSlice t l c) fun v o => kv v (st.new o)
 | .binOp op t x y _ => obW (opd T x) fun a => obW (opd T y) fun b => ifp (guardOk P op t x y a b) (ifp (and fl.lts (isLt op)) (ltYesW op a b fun v => kv v st) (ifp (and (or (and fl.eqs (isEq op)) (and fl.nes (isNe op))) (not (or (nilish a) (nilish b)))) (binYesW P op t a b fun v => kv v st) (binW P op t a b fun v => kv v st))) False
 | .indexAddr t x i => obW (opd T x) fun x => obW (opd T i) fun i => indexAddrW P t x i fun v => kv v st
 | .slice t x lo hi mx => obW (opd T x) fun x => obW (opdO T lo) fun lo => obW (opdO T hi) fun hi => obW (opdO T mx) fun mx => sliceW P st t x lo hi mx fun v => kv v st
 | .call c => ifp (isAppend c.callee)
   (obW (opds T c.args.toList) fun asl => (match asl, c.argTypes.toList with
    | [s, x], t :: r => appendW P fl.sym st t r.head? s x fun v st => kv v st
    | _, _ => False))
   (ifp (isCopy c.callee)
    (obW (opds T c.args.toList) fun asl => (match asl, c.argTypes.toList with
     | [d, s], t :: _ => copyW P st t d s fun v st => kv v st
     | _, _ => False))
    (ifp (isDelete c.callee)
     (obW (opds T c.args.toList) fun asl => (match asl, c.argTypes.toList with
      | [m, k], t :: _ => deleteW P fl.sym st t m k fun st => kv undefA st
      | _, _ => False))
     (obW (aop P T st op) fun r => OpR.rec kv kc ky kd r)))
 | .lookup t x i ok => obW (opd T x) fun x => obW (opd T i) fun i => lookupW P fl.sym st t x i ok fun v => kv v st
 | .mapUpdate t m k x => obW (opd T m) fun m => obW (opd T k) fun k => obW (opd T x) fun x => mapUpdateW P fl.sym st t m k x fun st => kv undefA st
 | .mapEntry t m k => obW (opd T m) fun m => obW (opd T k) fun k => mapEntryW P fl.sym st t m k fun v st => kv v st
 | .entryStore t m s x => obW (opd T m) fun m => obW (opd T s) fun s => obW (opd T x) fun x => entryStoreW fl.sym st t m s x fun st => kv undefA st
 | op => obW (aop P T st op) fun r => OpR.rec kv kc ky kd r
def splitW (v : AV) (k : AV → Prop) : Prop := AV.rec (motive_1 := fun _ => Prop) (motive_2 := fun _ => Unit) (fun b => ifp b (k (.bool true)) (k (.bool false))) (fun a b => k (.int a b)) (fun s => k (.str s)) (fun a b => k (.ptr a b)) (k .nilPtr) (fun a b c d e f => k (.slice a b c d e f)) (k .nilSlice) (fun a => k (.map a)) (k .nilMap) (fun f a b _ _ => k (.func f a b)) (fun l => k (.yield l)) (k .nilFunc) (k .nilIface) (fun l _ => k (.agg l)) (fun l _ => k (.tuple l)) (fun l a b c d e _ => k (.vs l a b c d e)) (fun l o _ => k (.vptr l o)) (fun a b => k (.gptr a b)) (fun t v _ => k (.iface t v)) () (fun _ _ _ _ => ()) v
def splitF (ns : Bool) (v : AV) (k : AV → Prop) : Prop := ifp ns (k v) (splitW v k)
def setAllW (nt : Nat) (k : Tr AV → Prop) : Tr AV → List Tmp → List AV → Prop
 | T, [], [] => k T
 | T, p :: ps, v :: vs => ifp (Nat.ble (Nat.succ p) nt) (setAllW nt k (T.set p v) ps vs) False
 | _, _, _ => False
def yieldW (r : RecW) (l : Nat) (args : List AV) (st : St) (k : Bool → St → Prop) : Prop :=
 obW (loopOf st l) fun p => LoopState.rec (setAllW p.nt (fun T =>
  r.code (some l) p.fn p.nt p.assign T [] st fun o1 => Out.rec (fun e T D st1 => Ex.rec
   (obW (loopOf st1 l) fun q => LoopState.rec
    (r.code (some l) p.fn p.nt p.body T D (st1.put l (.loop { q with state := .busy })) fun o2 => Out.rec (fun e2 T2 D2 st2 =>
     ifp (isNil D2) (obW (loopOf st2 l) fun q2 => Ex.rec
      (k true (st2.put l (.loop { q2 with state := .ready, pending := none })))
      (fun id => k false (st2.put l (.loop { q2 with state := .done, pending := some (.exit id) })))
      (k false (st2.put l (.loop { q2 with state := .done, pending := some .ret }))) e2) False) o2)
    False False False q.state)
   (fun _ => False) False e) o1) p.tmps p.params args) False False False p.state
def oneW (P : Program) (r : RecW) (cd : Bool) (nt : Nat) (T : Tr AV) (D : List ADef) (st : St) (o : Oper) (k : Tr AV → List ADef → St → Prop) : Prop :=
 aopW r.fl P T st o.op (fun v st' => splitF r.fl.ns v fun v => putW nt T o.dst v fun T => k T D st')
  (fun f args => r.call f args st fun v st' => splitF r.fl.ns v fun v => putW nt T o.dst v fun T => k T D st')
  (fun l args => yieldW r l args st fun b st' => putW nt T o.dst (.bool b) fun T => k T D st')
  (fun f args => False)
def opsW (P : Program) (r : RecW) (cd : Bool) (nt : Nat) (ops : List Oper) (k : Tr AV → List ADef → St → Prop) (l : List Oper) : Tr AV → List ADef → St → Prop :=
 List.rec (motive := fun _ => Tr AV → List ADef → St → Prop) (fun T D st => k T D st)
  (fun o _ ih T D st => obW (wantedA T ops o) fun b => ifp b (oneW P r cd nt T D st o fun T D st => ih T D st) (putW nt T o.dst undefA fun T => ih T D st)) l
def drawOpW (P : Program) (r : RecW) (base i m : Nat) (T : Tr AV) (st : St) (pend : List (Nat × Ob)) (o : Oper) (k : DRes → Prop) : Prop :=
 match kd o.op with
 | .pure | .read => aopW r.fl P T st o.op (fun v _ => splitF r.fl.ns v fun v => k ⟨v, st, none, pend⟩) (fun _ _ => False) (fun _ _ => False) (fun _ _ => False)
 | .fresh => freshW P st.vm T (Nat.add base i) o.op fun v ob => k ⟨v, st, some ob, (Nat.add base i, ob) :: pend⟩
 | .act =>
  let q := part2 base m pend
  aopW r.fl P T (addP st q.yes) o.op (fun v st' => splitF r.fl.ns v fun v => k ⟨v, st', none, q.no⟩) (fun f args => r.call f args (addP st q.yes) fun v st' => splitF r.fl.ns v fun v => k ⟨v, st', none, q.no⟩)
   (fun l args => yieldW r l args (addP st q.yes) fun b st' => k ⟨.bool b, st', none, q.no⟩) (fun _ _ => False)
def drawGoW (P : Program) (r : RecW) (nt base : Nat) (ops : List Oper) (bef : List Nat) (k : List DEnt → Mid → Prop) : Nat → List Oper → Tr AV → St → List (Nat × Ob) → List DEnt → Prop
 | _, [], T, st, pend, tr => k (tr ++ [⟨T, st, true, undefA, none, pend⟩]) ⟨T, [], addP st pend⟩
 | i, o :: l, T, st, pend, tr =>
  obW (nth i bef) fun m => obW (wantedA T ops o) fun wt =>
  ifp wt (drawOpW P r base i m T st pend o fun d => putW nt T o.dst d.v fun T' => drawGoW P r nt base ops bef k (Nat.succ i) l T' d.st d.pend (tr ++ [⟨T, st, true, d.v, d.ob, pend⟩]))
   (putW nt T o.dst undefA fun T' => drawGoW P r nt base ops bef k (Nat.succ i) l T' st pend (tr ++ [⟨T, st, false, undefA, none, pend⟩]))
def readSameW (P : Program) (sym : TypeId → Bool) (T : Tr AV) (st : St) (op : Op) (v : AV) : Prop := aopW ⟨false, sym, false, false, false⟩ P T st op (fun u _ => u = v) (fun _ _ => False) (fun _ _ => False) (fun _ _ => False)
def readsOk1W (P : Program) (sym : TypeId → Bool) (bef : List Nat) (rd : Nat) (o : Oper) (e : DEnt) : Nat → List Oper → List DEnt → Prop
 | a, x :: l, ea :: tr =>
  ifp (isActK (kd x.op))
   (ifp (Nat.ble (Nat.succ a) rd)
    (obW (nth rd bef) fun m => ifp (tb m a) (readsOk1W P sym bef rd o e (Nat.succ a) l tr) (readSameW P sym e.T ea.st o.op e.v ∧ readsOk1W P sym bef rd o e (Nat.succ a) l tr))
    (obW (nth a bef) fun m => ifp (tb m rd) (readsOk1W P sym bef rd o e (Nat.succ a) l tr) (obW tr.head? fun e2 => readSameW P sym e.T e2.st o.op e.v ∧ readsOk1W P sym bef rd o e (Nat.succ a) l tr)))
   (readsOk1W P sym bef rd o e (Nat.succ a) l tr)
 | _, [], _ => True
 | _, _, [] => False
def readsOkW (P : Program) (sym : TypeId → Bool) (bef : List Nat) (ops : List Oper) (tr : List DEnt) (k : Prop) : Nat → List Oper → List DEnt → Prop
 | i, o :: l, e :: t => ifp (and (isReadK (kd o.op)) e.wt) (readsOk1W P sym bef i o e 0 ops tr ∧ readsOkW P sym bef ops tr k (Nat.succ i) l t) (readsOkW P sym bef ops tr k (Nat.succ i) l t)
 | _, [], _ => k
 | _, _, [] => False
def drawW (P : Program) (r : RecW) (nt : Nat) (ops : List Oper) (T : Tr AV) (D : List ADef) (st : St) (k : Tr AV → List ADef → St → Prop) : Prop :=
 ifp (regOk ops) (drawGoW P r nt st.next ops (befs [] ops) (fun tr m => readsOkW P r.fl.sym (befs [] ops) ops tr (k m.tmps D m.st) 0 ops tr) 0 ops T ⟨st.heap, Nat.add st.next ops.length, st.vm, st.gl, st.rw⟩ [] []) False
def firstReg : Code → Nat
 | .region id _ _ => id
 | .seq a b => firstReg a
 | .cond _ a _ => firstReg a
 | .block _ b | .loop b | .scope b => firstReg b
 | .rangeFunc _ _ _ b => firstReg b
 | _ => 0
def rangeW (r : RecW) (gv : AV) (T : Tr AV) (D : List ADef) (l : Nat) (st : St) (Q : Out → Prop) : Prop :=
 match gv with
 | .func f first cap =>
  r.call f (first ++ [AV.yield l] ++ cap) st fun _ st' => obW (loopOf st' l) fun q => ifp (match q.state with | .busy => true | _ => false) False
   (Option.rec (Q ⟨.normal, T, D, st'.put l (.loop { q with state := .exhausted })⟩)
    (fun c => obW (jumpA c) fun e => Q ⟨e, T, D, st'.put l (.loop { q with state := .exhausted })⟩) q.pending)
 | _ => False
def flAt (K : Known) (r : RecW) (fn : FuncId) (id : Nat) : RecW := ⟨r.code, r.call, ⟨or K.eqs (K.eqAt fn id), K.sym, or (K.eqAt fn id) (K.neAt fn id), K.neAt fn id, K.ltAt fn id⟩⟩
def codeW (P : Program) (K : Known) (r : RecW) (ro : Option Nat) (fn : FuncId) (nt : Nat) (c : Code) (T : Tr AV) (D : List ADef) (st : St) (Q : Out → Prop) : Prop :=
 match c with
 | .skip | .label _ => Q ⟨.normal, T, D, st⟩
 | .seq a b => r.code ro fn nt a T D st fun o => Out.rec (fun e T D st => Ex.rec (r.code ro fn nt b T D st Q) (fun i => Q ⟨.exit i, T, D, st⟩) (Q ⟨.ret, T, D, st⟩) e) o
 | .cond x a b => obW (opd T x) fun v => (match v with | .bool b' => ifp b' (r.code ro fn nt a T D st Q) (r.code ro fn nt b T D st Q) | _ => False)
 | .block id b => r.code ro fn nt b T D st fun o => Out.rec (fun e T D st => Ex.rec (Q ⟨.normal, T, D, st⟩) (fun i => ifp (Nat.beq i id) (Q ⟨.normal, T, D, st⟩) (Q ⟨.exit i, T, D, st⟩)) (Q ⟨.ret, T, D, st⟩) e) o
 | .loop b => Option.rec
   (r.code ro fn nt b T D st fun o => Out.rec (fun e T D st => Ex.rec (r.code ro fn nt (.loop b) T D st Q) (fun i => Q ⟨.exit i, T, D, st⟩) (Q ⟨.ret, T, D, st⟩) e) o)
   (fun C => LoopOk P fn nt (.loop b) C ∧ C ro nt T D st Q) (K.lp fn (firstReg b))
 | .scope b => r.code ro fn nt b T D st Q
 | .exit id => Q ⟨.exit id, T, D, st⟩
 | .ret => Q ⟨.ret, T, D, st⟩
 | .region id ops draw => Bool.rec (opsW P (flAt K r fn id) ro.isNone nt ops.toList (fun T D st => Q ⟨.normal, T, D, st⟩) ops.toList T D st) (drawW P (flAt K r fn id) nt ops.toList T D st fun T D st => Q ⟨.normal, T, D, st⟩) draw
 | .rangeFunc g ps asl body => Option.rec
   (obW (opd T g) fun gv => obW (loopPlace ro D st) fun q =>
    rangeW r gv T q.defers q.st.next (q.st.new (.loop { state := .ready, pending := none, fn, nt, tmps := T, params := ps.toList, assign := asl, body, defers := q.d })) Q)
   (fun C => LoopOk P fn nt (.rangeFunc g ps asl body) C ∧ C ro nt T D st Q) (K.lp fn (firstReg body))
 | _ => False
def collectedOnly : List ADef → St → Option St
  | [], st => some st
  | .call _ _ :: _, _ => none
  | .collected d :: l, st =>
    ob (st.heap.get d) fun o =>
    (match o with
     | .deferred true => collectedOnly l (st.put d (.deferred false))
     | _ => none)
def callW (P : Program) (r : RecW) (f : FuncId) (args : List AV) (st : St) (Q : AV → St → Prop) : Prop :=
  obW P.funcs[f]? fun fn =>
    ifp (fn.name == "runtime.NumGoroutine") False
     (obW fn.body fun c =>
      ifp (Nat.ble args.length fn.ntmps)
      (r.code none f fn.ntmps c (Tr.ofList .leaf 0 args) [] st fun o => Out.rec (fun e T D st => Ex.rec
          (obW (collectedOnly D st) fun st => obW (resultsA P T st fn.results.toList) fun vs => Q (oneOrTuple vs) st)
          (fun _ => False)
          (obW (collectedOnly D st) fun st => obW (resultsA P T st fn.results.toList) fun vs => Q (oneOrTuple vs) st) e) o)
      False)
def stepW (P : Program) (K : Known) (r : RecW) : RecW :=
 ⟨codeW P K r, fun f args st Q => Option.rec (callW P r f args st Q) (fun C => C args st Q) (K.tab f), ⟨K.eqs, K.sym, false, false, false⟩⟩
def runW (P : Program) (K : Known) (n : Nat) : RecW := Nat.rec ⟨fun _ _ _ _ _ _ _ _ => False, fun _ _ _ _ => False, ⟨false, fun _ => false, false, false, false⟩⟩ (fun _ r => stepW P K r) n
end Go.Det
end
namespace Go.Det
variable {P : Program}
theorem ifp_iff {b : Bool} {x y : Prop} : ifp b x y ↔ (b = true ∧ x) ∨ (b = false ∧ y) := by cases b <;> simp [ifp]
theorem ifp_F {b : Bool} {x : Prop} : ifp b x False ↔ b = true ∧ x := by cases b <;> simp [ifp]
theorem obW_iff {α : Type} {o : Option α} {k : α → Prop} : obW o k ↔ ∃ a, o = some a ∧ k a := by cases o <;> simp [obW]
theorem natOf_cast {z : Int} (h : 0 ≤ z) : z = .ofNat (natOf z) := by
 cases z with
 | ofNat n => rfl
 | negSucc n => omega
theorem natOf_le {z : Int} {y : Nat} (h : 0 ≤ z) (h' : z ≤ (y : Int)) : natOf z ≤ y := by
 cases z with
 | ofNat n => exact Int.ofNat_le.1 h'
 | negSucc n => omega
theorem sub_of {α : Type} : ∀ {o n : Nat} {l : List α}, o + n ≤ l.length → sub o n l = some ((l.drop o).take n)
 | 0, n, l, h => by
  show takeX n l = _
  rw [takeX_some]; exact ⟨by omega, by simp⟩
 | o + 1, n, [], h => by simp at h
 | o + 1, n, x :: l, h => by
  show sub o n l = _
  rw [sub_of (by simp at h; omega)]; simp
theorem sub_of_nth {α : Type} {o n : Nat} {l r : List α} (hr : r.length = n) (hn : 1 ≤ n) (h : ∀ i, i < n → nth (o + i) l = r[i]?) : sub o n l = some r := by
 have hlen : o + n ≤ l.length := by
  have := h (n - 1) (by omega)
  rw [nth_eq, List.getElem?_eq_getElem (l := r) (by omega)] at this
  rcases Nat.lt_or_ge (o + (n - 1)) l.length with h1 | h1
  ·omega
  ·rw [List.getElem?_eq_none h1] at this; cases this
 rw [sub_of hlen]
 congr 1
 apply List.ext_getElem?
 intro i
 by_cases c : i < n
 ·have := h i c
  rw [nth_eq] at this
  rw [List.getElem?_take_of_lt c, List.getElem?_drop, this]
 ·rw [List.getElem?_eq_none (by rw [List.length_take]; omega), List.getElem?_eq_none (by omega)]
theorem cellsW_sound {l : List AV} {o : Nat} {k : AV → Prop} {d : TypeDesc} (h : cellsW l o k d) : ∃ v, nth o l = some v ∧ k v := by
 unfold cellsW at h
 split at h
 ·obtain ⟨x, h1, h2⟩ := h; exact ⟨_, h1, h2⟩
 ·obtain ⟨x, h1, h2⟩ := h; exact ⟨_, h1, h2⟩
 ·obtain ⟨x, h1, h2⟩ := h; exact ⟨_, h1, h2⟩
 ·obtain ⟨l', n, c, x, w, e, h1, h2⟩ := h
  exact ⟨_, h1, h2⟩
 ·exact h
theorem fieldsW_sound {l : List AV} {o : Nat} : ∀ {fs : List Field} {j : Nat} {k : List AV → Prop}, fieldsW P l o k fs → offsOk j fs = true → ∃ vs, vs.length = fs.length ∧ (∀ i, i < fs.length → nth (o + (j + i)) l = vs[i]?) ∧ k vs
 | [], j, k, h, _ => ⟨[], rfl, fun i hi => by simp at hi, h⟩
 | f :: fs, j, k, h, ho => by
  simp only [fieldsW, obW_iff] at h
  obtain ⟨d, hd, h⟩ := h
  have h' : cellsW l (Nat.add o f.offset) (fun v => fieldsW P l o (fun vs => k (v :: vs)) fs) d := by
   rcases ifp_iff.1 h with ⟨_, h⟩ | ⟨_, h⟩
   ·exact h.elim
   ·exact h
  obtain ⟨v, h1, h2⟩ := cellsW_sound h'
  simp only [offsOk, ifb_eq] at ho
  by_cases c : f.offset = j
  ·rw [if_pos (beq_t c)] at ho
   obtain ⟨vs, k1, k2, k3⟩ := fieldsW_sound (j := j + 1) h2 ho
   refine ⟨v :: vs, by simp [k1], fun i hi => ?_, k3⟩
   cases i with
   | zero => simp only [Nat.add_zero, List.getElem?_cons_zero]; rw [← c]; exact h1
   | succ i =>
    have := k2 i (by simp at hi; omega)
    rw [List.getElem?_cons_succ, ← this]
    congr 1; omega
  ·rw [if_neg (by rw [beq_f c]; simp)] at ho; cases ho
theorem readW_sound {t : TypeId} {l : List AV} {o : Nat} {k : AV → Prop} (h : readW P t l o k) : ∃ v, partA P t l o = some v ∧ k v := by
 unfold readW at h
 rw [obW_iff] at h
 obtain ⟨d, hd, h⟩ := h
 have plain : (∀ fs, d ≠ .struct fs) → (∀ n e, d ≠ .array n e) → cellsW l o k d → ∃ v, partA P t l o = some v ∧ k v := by
  intro n1 n2 hc
  obtain ⟨v, h1, h2⟩ := cellsW_sound hc
  refine ⟨v, ?_, h2⟩
  have ha : aggT P t = some false := by
   unfold aggT; rw [hd]
   cases d <;> first | rfl | exact absurd rfl (n1 _) | exact absurd rfl (n2 _ _)
  simp only [partA, ob_eq, ha, Option.bind_some, ifb_false, h1]
 split at h
 ·rename_i fs
  rw [obW_iff] at h
  obtain ⟨n, hn, h⟩ := h
  rw [ifp_F] at h
  simp only [Bool.and_eq_true] at h
  obtain ⟨⟨h1, h2, h3⟩, h⟩ := h
  obtain ⟨vs, k1, k2, k3⟩ := fieldsW_sound h h3
  refine ⟨.agg vs, ?_, k3⟩
  have ha : aggT P t = some true := by unfold aggT; rw [hd]
  have e2 : fs.toList.length = n := of_beq h2
  simp only [partA, ob_eq, ha, Option.bind_some, ifb_true, hn, om_eq]
  rw [sub_of_nth (r := vs) (by rw [k1, e2]) (of_ble h1) (fun i hi => by have := k2 i (by omega); rwa [Nat.zero_add] at this)]
  rfl
 ·exact h.elim
 ·rename_i n1 n2
  exact plain (fun fs e => n1 fs e) (fun n e e' => n2 n e e') h
def Takes (x : Option OpR) (kv : AV → St → Prop) (kc : FuncId → List AV → Prop) (ky kd : Nat → List AV → Prop) : Prop := ∃ r, x = some r ∧ OpR.rec (motive := fun _ => Prop) kv kc ky kd r
theorem rowW_iff {st : St} {b : Nat} {k : List AV → TypeId → Prop} : rowW st b k ↔ ∃ cs e, rowOf st b = some (cs, e) ∧ k cs e := by
 unfold rowW
 rw [obW_iff]
 constructor
 ·rintro ⟨⟨cs, e⟩, h1, h2⟩; exact ⟨cs, e, h1, h2⟩
 ·rintro ⟨cs, e, h1, h2⟩; exact ⟨(cs, e), h1, h2⟩
theorem loadW_sound {sym : TypeId → Bool} {st : St} {t : TypeId} {a : AV} {k : AV → Prop} (h : loadW P sym st t a k) :
  ∃ v, ptrV a (fun b o => jst st (loadA P st t b o)) (fun l o => jst st (partA P t l o)) (fun g o => jst st (ob (st.gl.get g) fun l => partA P t l o)) = some (.val v st) ∧ k v := by
 unfold loadW at h
 split at h
 ·rw [rowW_iff] at h
  obtain ⟨cs, e, h0, h⟩ := h
  obtain ⟨v, h1, h2⟩ : ∃ v, partA P t cs _ = some v ∧ k v := by
   rcases ifp_iff.1 h with ⟨_, h⟩ | ⟨_, h⟩
   ·exact readW_sound h
   ·exact obW_iff.1 h
  exact ⟨v, by simp only [ptrV, loadA, h0, ob_eq, Option.bind_some, h1]; rfl, h2⟩
 ·obtain ⟨v, h1, h2⟩ := readW_sound h
  exact ⟨v, by simp only [ptrV]; rw [h1]; rfl, h2⟩
 ·simp only [obW_iff] at h
  obtain ⟨l, h1, v, h2, h3⟩ := h
  exact ⟨v, by simp only [ptrV, ob_eq]; rw [h1, Option.bind_some, h2]; rfl, h3⟩
 ·exact h.elim
theorem over_of {α : Type} : ∀ {xs l : List α}, xs.length ≤ l.length → over xs l = some (xs ++ l.drop xs.length)
 | [], l, _ => by simp [over]
 | x :: xs, [], h => by simp at h
 | x :: xs, y :: l, h => by simp only [over, over_of (xs := xs) (l := l) (by simpa using h)]; simp [om]
theorem overAt_of {α : Type} : ∀ {o : Nat} {xs l : List α}, o + xs.length ≤ l.length → overAt o xs l = some (l.take o ++ xs ++ l.drop (o + xs.length))
 | 0, xs, l, h => by simp only [overAt, over_of (by simpa using h)]; simp
 | o + 1, xs, [], h => by simp at h
 | o + 1, xs, y :: l, h => by
  simp only [overAt, overAt_of (o := o) (xs := xs) (l := l) (by simp at h; omega)]
  rw [show o + 1 + xs.length = (o + xs.length) + 1 by omega]
  simp [om]
theorem storeW_sound {sym : TypeId → Bool} {st : St} {t : TypeId} {a v : AV} {k : St → Prop} (h : storeW P sym st t a v k) : ∃ st', ptrR a (fun b o => ust (storeA P st t b o v)) = some (.val undefA st') ∧ k st' := by
 unfold storeW at h
 split at h
 ·rename_i b o
  rw [obW_iff] at h
  obtain ⟨n, hn, h⟩ := h
  rw [ifp_F, Bool.and_eq_true, rowW_iff] at h
  obtain ⟨⟨h1, h2⟩, cs, e, h3, h⟩ := h
  obtain ⟨cs', h4, h5⟩ : ∃ cs', overAt o v.cells cs = some cs' ∧ k (st.put b (.row cs' e)) := by
   rcases ifp_iff.1 h with ⟨_, h4, h5⟩ | ⟨_, h⟩
   ·exact ⟨_, overAt_of h4, h5⟩
   ·exact obW_iff.1 h
  exact ⟨_, by simp only [ptrR, storeA, ob_eq, hn, Option.bind_some, h1, ifb_true, storeCellsA, h3, h2, om_eq, h4]; rfl, h5⟩
 ·exact h.elim
theorem fieldsEqW_sound {eq : TypeId → AV → AV → (Bool → Prop) → Prop} {eq' : TypeId → AV → AV → Option Bool} (he : ∀ t x y k, eq t x y k → ∃ b, eq' t x y = some b ∧ k b) {xs ys : List AV} {k : Bool → Prop} :
  ∀ fs : List Field, fieldsEqW P eq xs ys k fs → ∃ b, fieldsEqA P eq' xs ys fs = some b ∧ k b
 | [], h => ⟨true, rfl, h⟩
 | f :: fs, h => by
  simp only [fieldsEqW] at h
  simp only [fieldsEqA]
  rcases ifp_iff.1 h with ⟨h1, h⟩ | ⟨h1, h⟩
  ·rw [h1, ifb_true]; exact fieldsEqW_sound he fs h
  ·rw [h1, ifb_false]
   simp only [obW_iff] at h
   obtain ⟨a, ha, b, hb, h⟩ := h
   obtain ⟨r, hr, h⟩ := he _ _ _ _ h
   simp only [ob_eq, ha, hb, hr, Option.bind_some]
   rcases ifp_iff.1 h with ⟨h2, h⟩ | ⟨h2, h⟩
   ·rw [h2, ifb_true]; exact fieldsEqW_sound he fs h
   ·rw [h2, ifb_false]; exact ⟨false, rfl, h⟩
theorem eqW_sound : ∀ (d : Nat) (t : TypeId) (x y : AV) (k : Bool → Prop), eqW P d t x y k → ∃ b, eqA P d t x y = some b ∧ k b
 | 0, t, x, y, k, h => by simp [eqW] at h
 | d + 1, t, x, y, k, h => by
  unfold eqW at h
  split at h
  ·rw [obW_iff] at h
   obtain ⟨u, hu, h⟩ := h
   split at h
   ·rcases ifp_iff.1 h with ⟨_, h⟩ | ⟨h1, h⟩
    ·exact h.elim
    ·obtain ⟨b, h2, h3⟩ := fieldsEqW_sound (eqW_sound d) _ h
     refine ⟨b, ?_, h3⟩
     simp only [eqA, hu, h1, ifb_false, h2]
   ·exact h.elim
  ·exact obW_iff.1 h
theorem fieldsYesW_sound {eq : TypeId → AV → AV → Prop} {eq' : TypeId → AV → AV → Option Bool} (he : ∀ t x y, eq t x y → eq' t x y = some true) {xs ys : List AV} :
  ∀ fs : List Field, fieldsYesW P eq xs ys fs → fieldsEqA P eq' xs ys fs = some true
 | [], h => rfl
 | f :: fs, h => by
  simp only [fieldsYesW] at h
  simp only [fieldsEqA]
  rcases ifp_iff.1 h with ⟨h1, h⟩ | ⟨h1, h⟩
  ·rw [h1, ifb_true]; exact fieldsYesW_sound he fs h
  ·rw [h1, ifb_false]
   simp only [obW_iff] at h
   obtain ⟨a, ha, b, hb, h, h'⟩ := h
   simp only [ob_eq, ha, hb, he _ _ _ h, Option.bind_some, ifb_true]
   exact fieldsYesW_sound he fs h'
theorem yesW_sound : ∀ (d : Nat) (t : TypeId) (x y : AV), yesW P d t x y → eqA P d t x y = some true
 | 0, t, x, y, h => by simp [yesW] at h
 | d + 1, t, x, y, h => by
  unfold yesW at h
  split at h
  ·rw [obW_iff] at h
   obtain ⟨u, hu, h⟩ := h
   split at h
   ·rcases ifp_iff.1 h with ⟨_, h⟩ | ⟨h1, h⟩
    ·exact h.elim
    ·simp only [eqA, hu, h1, ifb_false]
     exact fieldsYesW_sound (yesW_sound d) _ h
   ·exact h.elim
  ·rw [obW_iff] at h
   obtain ⟨u, hu, h⟩ := h
   split at h
   ·rw [ifp_F] at h
    obtain ⟨h1, h2⟩ := h
    subst h2
    simp only [eqA, hu, h1, ifb_true]
    rw [eqInt_iff.2 rfl]
   ·exact h.elim
  ·rw [obW_iff] at h
   obtain ⟨u, hu, h⟩ := h
   split at h
   ·subst h
    simp only [eqA, hu]
    rw [eqBool_eq]; simp
   ·exact h.elim
  ·exact h
theorem binYesW_sound {op : BinOp} {t : TypeId} {x y : AV} {k : AV → Prop} (h : binYesW P op t x y k) : ∃ v, binA P op t x y = some v ∧ k v := by
 have hx : ∀ (r : AV) (f : Bool → AV), f true = r → (∀ q z q' z', ¬(x = .int q z ∧ y = .int q' z')) → True := fun _ _ _ _ => trivial
 unfold binYesW at h
 split at h
 ·obtain ⟨h1, h2⟩ := h
  have h3 := yesW_sound _ _ _ _ h1
  refine ⟨_, ?_, h2⟩
  unfold binA
  split
  ·rename_i q a q' b
   have : eqKind q q' = true ∧ eqInt a b = true := by
    unfold eqA at h3
    split at h3 <;> simp_all
    rename_i e1 e2 e3
    simp only [ifb_eq] at h3
    split at h3 <;> simp_all
   simp only [isShift, ifb_false, this.1, ifb_true, binInt, this.2]
  ·rename_i a b
   have : eqBytes a.data.toList b.data.toList = true := by
    unfold eqA at h3
    split at h3 <;> simp_all
   simp only [this]
  ·simp only [h3]; rfl
 ·obtain ⟨h1, h2⟩ := h
  have h3 := yesW_sound _ _ _ _ h1
  refine ⟨_, ?_, h2⟩
  unfold binA
  split
  ·rename_i q a q' b
   have : eqKind q q' = true ∧ eqInt a b = true := by
    unfold eqA at h3
    split at h3 <;> simp_all
    rename_i e1 e2 e3
    simp only [ifb_eq] at h3
    split at h3 <;> simp_all
   simp only [isShift, ifb_false, this.1, ifb_true, binInt, this.2, Bool.not_true]
  ·rename_i a b
   have : eqBytes a.data.toList b.data.toList = true := by
    unfold eqA at h3
    split at h3 <;> simp_all
   simp only [this, Bool.not_true]
  ·simp only [h3]; rfl
 ·exact h.elim
theorem notNeg {b : Int} (h : 0 ≤ b) : isNeg b = false := by
 cases b with
 | ofNat n => rfl
 | negSucc n => omega
theorem binW_sound {op : BinOp} {t : TypeId} {x y : AV} {k : AV → Prop} (h : binW P op t x y k) : ∃ v, binA P op t x y = some v ∧ k v := by
 unfold binW at h
 split at h
 ·exact ⟨_, by simp only [binA, isShift, ifb_true, shiftA, notNeg h.1, ifb_false]; rfl, h.2⟩
 ·exact ⟨_, by simp only [binA, isShift, ifb_true, shiftA, notNeg h.1, ifb_false]; rfl, h.2⟩
 ·rename_i j a j' b
  rw [ifp_F] at h
  obtain ⟨h1, h2, h3⟩ := h
  refine ⟨_, ?_, h3⟩
  have hb : eqInt b 0 = false := by
   cases hb : eqInt b 0 with
   | false => rfl
   | true => exact absurd (eqInt_iff.1 hb) h2
  simp only [binA, isShift, ifb_false, h1, ifb_true, binInt, hb]
 ·rename_i j a j' b
  rw [ifp_F] at h
  obtain ⟨h1, h2, h3⟩ := h
  refine ⟨_, ?_, h3⟩
  have hb : eqInt b 0 = false := by
   cases hb : eqInt b 0 with
   | false => rfl
   | true => exact absurd (eqInt_iff.1 hb) h2
  simp only [binA, isShift, ifb_false, h1, ifb_true, binInt, hb]
 ·obtain ⟨b, h1, h2⟩ := eqW_sound _ _ _ _ _ h
  exact ⟨_, by simp only [binA, h1]; rfl, h2⟩
 ·obtain ⟨b, h1, h2⟩ := eqW_sound _ _ _ _ _ h
  exact ⟨_, by simp only [binA, h1]; rfl, h2⟩
 ·rename_i l n c x w e
  rw [obW_iff] at h
  obtain ⟨d, hd, h⟩ := h
  split at h
  ·have hn : Nat.beq n 0 = false := beq_f h.1
   have he : eqA P (9999 + 1) t (.vs l n c x w e) .nilSlice = some false := by simp only [eqA, hd, hn, ifb_false]
   exact ⟨.bool false, by show om AV.bool (eqA P (9999 + 1) t _ _) = _; rw [he]; rfl, h.2⟩
  ·exact h.elim
 ·rename_i l n c x w e
  rw [obW_iff] at h
  obtain ⟨d, hd, h⟩ := h
  split at h
  ·have hn : Nat.beq n 0 = false := beq_f h.1
   have he : eqA P (9999 + 1) t (.vs l n c x w e) .nilSlice = some false := by simp only [eqA, hd, hn, ifb_false]
   exact ⟨.bool true, by show om (fun b => AV.bool (not b)) (eqA P (9999 + 1) t _ _) = _; rw [he]; rfl, h.2⟩
  ·exact h.elim
 ·exact obW_iff.1 h
theorem indexAddrW_sound {t : TypeId} {x i : AV} {k : AV → Prop} (h : indexAddrW P t x i k) : ∃ v, indexAddrA P t x i = some v ∧ k v := by
 unfold indexAddrW at h
 split at h
 ·rename_i l len c x w e q z
  rw [obW_iff] at h
  obtain ⟨d, hd, h⟩ := h
  split at h
  ·rename_i elem
   rw [obW_iff] at h
   obtain ⟨s, hs, h⟩ := h
   rw [ifp_F] at h
   obtain ⟨he, ⟨h1, h2⟩, h3⟩ := h
   refine ⟨_, ?_, h3⟩
   rw [natOf_cast h1] at h2
   have hlt : natOf z < len := by simp at h2; omega
   have : indexAddrA P t (.vs l len c x w e) (.int q (.ofNat (natOf z))) = some (.vptr l (Nat.mul (natOf z) s)) := by
    simp only [indexAddrA, hd, ob_eq, hs, Option.bind_some]
    rw [show Nat.ble (Nat.succ (natOf z)) len = true from ble_t hlt, ifb_true, he, ifb_true]
   rw [← natOf_cast h1] at this
   exact this
  ·exact h.elim
 ·rename_i b o len c x e q z
  rw [obW_iff] at h
  obtain ⟨d, hd, h⟩ := h
  split at h
  ·rename_i elem
   rw [obW_iff] at h
   obtain ⟨s, hs, h⟩ := h
   rw [ifp_F] at h
   obtain ⟨he, ⟨h1, h2⟩, h3⟩ := h
   refine ⟨_, ?_, h3⟩
   rw [natOf_cast h1] at h2
   have hlt : natOf z < len := by simp at h2; omega
   have : indexAddrA P t (.slice b o len c x e) (.int q (.ofNat (natOf z))) = some (.ptr b (Nat.add o (Nat.mul (natOf z) s))) := by
    simp only [indexAddrA, hd, ob_eq, hs, Option.bind_some]
    rw [show Nat.ble (Nat.succ (natOf z)) len = true from ble_t hlt, ifb_true, he, ifb_true]
   rw [← natOf_cast h1] at this
   exact this
  ·exact h.elim
 ·exact obW_iff.1 h
theorem natW_in {v : AV} {d y : Nat} {k : Nat → Prop} (h : natW (some v) d y k) : ∃ n, natIn v y = some n ∧ n ≤ y ∧ k n := by
 unfold natW at h
 split at h
 ·rename_i e; cases e
 ·rename_i q z e
  injection e with e; subst e
  obtain ⟨h1, h2, h3⟩ := h
  have hle := natOf_le h1 h2
  refine ⟨natOf z, ?_, hle, h3⟩
  have : natIn (.int q (.ofNat (natOf z))) y = some (natOf z) := by
   simp only [natIn]
   rw [show Nat.ble (natOf z) y = true from ble_t hle, ifb_true]
  rw [← natOf_cast h1] at this
  exact this
 ·exact h.elim
noncomputable def mxB (mx : Option AV) (cap : Nat) : Option Nat := match mx with | some v => natIn v cap | none => some cap
noncomputable def hiB (hi mx : Option AV) (len m : Nat) : Option Nat := match hi with | some v => natIn v m | none => (match mx with | some _ => none | none => some len)
noncomputable def loB (lo : Option AV) (h : Nat) : Option Nat := match lo with | some v => natIn v h | none => some 0
theorem boundsA_eq (len cap : Nat) (lo hi mx : Option AV) : boundsA len cap lo hi mx = (mxB mx cap).bind fun m => (hiB hi mx len m).bind fun h => (loB lo h).map fun l => ⟨l, h, m⟩ := by
 simp only [boundsA, ob_eq, om_eq]
 cases lo <;> cases hi <;> cases mx <;> rfl
theorem sliceW_sound {st : St} {t : TypeId} {x : AV} {lo hi mx : Option AV} {k : AV → Prop} (h : sliceW P st t x lo hi mx k) : ∃ v, sliceOpA P st t x lo hi mx = some v ∧ k v := by
 unfold sliceW at h
 split at h
 ·rename_i l len cap ex own e
  rw [obW_iff] at h
  obtain ⟨d, hd, h⟩ := h
  split at h
  ·rename_i elem
   rw [obW_iff] at h
   obtain ⟨s, hs, h⟩ := h
   rw [ifp_F, Bool.and_eq_true] at h
   obtain ⟨⟨he, hhm⟩, h⟩ := h
   have he' : s = e := of_beq he
   -- the three bounds
   have h1 : ∃ m, mxB mx cap = some m ∧ natW hi len m fun h => natW lo 0 h fun lo => h ≤ len ∧ l.length = Nat.mul len e ∧
     k (.vs ((l.drop (Nat.mul lo s)).take (Nat.mul (Nat.sub h lo) s)) (Nat.sub h lo) (Nat.sub m lo) (mxEx mx ex) none e) := by
    cases mx with
    | none => exact ⟨cap, rfl, h⟩
    | some v => obtain ⟨n, k1, _, k2⟩ := natW_in h; exact ⟨n, k1, k2⟩
   obtain ⟨m, hm, h1⟩ := h1
   have h2 : ∃ hh, hiB hi mx len m = some hh ∧ natW lo 0 hh fun lo => hh ≤ len ∧ l.length = Nat.mul len e ∧
     k (.vs ((l.drop (Nat.mul lo s)).take (Nat.mul (Nat.sub hh lo) s)) (Nat.sub hh lo) (Nat.sub m lo) (mxEx mx ex) none e) := by
    cases hi with
    | none =>
     cases mx with
     | none => exact ⟨len, rfl, h1⟩
     | some v => cases hhm
    | some v => obtain ⟨n, k1, _, k2⟩ := natW_in h1; exact ⟨n, k1, k2⟩
   obtain ⟨hh, hhh, h2⟩ := h2
   have h3 : ∃ ll, loB lo hh = some ll ∧ ll ≤ hh ∧ hh ≤ len ∧ l.length = Nat.mul len e ∧
     k (.vs ((l.drop (Nat.mul ll s)).take (Nat.mul (Nat.sub hh ll) s)) (Nat.sub hh ll) (Nat.sub m ll) (mxEx mx ex) none e) := by
    cases lo with
    | none => exact ⟨0, rfl, Nat.zero_le _, h2⟩
    | some v => obtain ⟨n, k1, k3, k2⟩ := natW_in h2; exact ⟨n, k1, k3, k2⟩
   obtain ⟨ll, hll, h4, h5, h6, h7⟩ := h3
   refine ⟨_, ?_, h7⟩
   have hb : boundsA len cap lo hi mx = some ⟨ll, hh, m⟩ := by
    rw [boundsA_eq, hm, Option.bind_some, hhh, Option.bind_some, hll]; rfl
   simp only [sliceOpA, hd, ob_eq, hb, hs, Option.bind_some, he, Bool.true_and]
   rw [show Nat.ble hh len = true from ble_t h5, ifb_true, om_eq, sub_of]
   ·cases mx <;> rfl
   ·show ll * s + (hh - ll) * s ≤ l.length
    rw [h6, ← he', ← Nat.add_mul]
    exact Nat.mul_le_mul_right _ (by omega)
  ·exact h.elim
 ·rename_i b o len cap ex e
  rw [obW_iff] at h
  obtain ⟨d, hd, h⟩ := h
  split at h
  ·rename_i elem
   rw [obW_iff] at h
   obtain ⟨s, hs, h⟩ := h
   rw [ifp_F, Bool.and_eq_true] at h
   obtain ⟨⟨he, hhm⟩, h⟩ := h
   have h1 : ∃ m, mxB mx cap = some m ∧ natW hi len m fun h => natW lo 0 h fun lo => k (.slice b (Nat.add o (Nat.mul lo s)) (Nat.sub h lo) (Nat.sub m lo) (mxEx mx ex) e) := by
    cases mx with
    | none => exact ⟨cap, rfl, h⟩
    | some v => obtain ⟨n, k1, _, k2⟩ := natW_in h; exact ⟨n, k1, k2⟩
   obtain ⟨m, hm, h1⟩ := h1
   have h2 : ∃ hh, hiB hi mx len m = some hh ∧ natW lo 0 hh fun lo => k (.slice b (Nat.add o (Nat.mul lo s)) (Nat.sub hh lo) (Nat.sub m lo) (mxEx mx ex) e) := by
    cases hi with
    | none =>
     cases mx with
     | none => exact ⟨len, rfl, h1⟩
     | some v => cases hhm
    | some v => obtain ⟨n, k1, _, k2⟩ := natW_in h1; exact ⟨n, k1, k2⟩
   obtain ⟨hh, hhh, h2⟩ := h2
   have h3 : ∃ ll, loB lo hh = some ll ∧ k (.slice b (Nat.add o (Nat.mul ll s)) (Nat.sub hh ll) (Nat.sub m ll) (mxEx mx ex) e) := by
    cases lo with
    | none => exact ⟨0, rfl, h2⟩
    | some v => obtain ⟨n, k1, k3, k2⟩ := natW_in h2; exact ⟨n, k1, k2⟩
   obtain ⟨ll, hll, h7⟩ := h3
   refine ⟨_, ?_, h7⟩
   have hb : boundsA len cap lo hi mx = some ⟨ll, hh, m⟩ := by
    rw [boundsA_eq, hm, Option.bind_some, hhh, Option.bind_some, hll]; rfl
   simp only [sliceOpA, hd, ob_eq, hb, hs, Option.bind_some, he, ifb_true]
   cases mx <;> rfl
  ·exact h.elim
 ·cases mx with
  | none => exact obW_iff.1 h
  | some c =>
   change obW (P.underlying t) _ at h
   rw [obW_iff] at h
   obtain ⟨d, hd, h⟩ := h
   split at h
   ·rename_i elem
    rw [obW_iff] at h
    obtain ⟨s, hs, h⟩ := h
    rw [ifp_F] at h
    obtain ⟨hhm, h⟩ := h
    obtain ⟨m, k1, _, h⟩ := natW_in h
    have h2 : ∃ hh, hiB hi (some c) 0 m = some hh ∧ natW lo 0 hh fun _ => k .nilSlice := by
     cases hi with
     | none => cases hhm
     | some v => obtain ⟨n, k1, _, k2⟩ := natW_in h; exact ⟨n, k1, k2⟩
    obtain ⟨hh, hhh, h⟩ := h2
    have h3 : ∃ ll, loB lo hh = some ll ∧ k .nilSlice := by
     cases lo with
     | none => exact ⟨0, rfl, h⟩
     | some v => obtain ⟨n, k1, k3, k2⟩ := natW_in h; exact ⟨n, k1, k2⟩
    obtain ⟨ll, hll, h7⟩ := h3
    refine ⟨_, ?_, h7⟩
    have hb : boundsA 0 0 lo hi (some c) = some ⟨ll, hh, m⟩ := by
     rw [boundsA_eq, show mxB (some c) 0 = some m from k1, Option.bind_some, hhh, Option.bind_some, hll]; rfl
    simp only [sliceOpA, hd, ob_eq, hs, Option.bind_some, hb, om_eq, Option.map_some]
   ·exact h.elim
 ·exact obW_iff.1 h
theorem newW_sound {st : St} {i : TypeInfo} {z : AV} {zs : Bool} {x : AV} {k : Nat → List AV → Prop} (h : newW st i z zs x k) : ∃ q : Nat × List AV, newCells st i z zs x = some q ∧ k q.1 q.2 := by
 unfold newW at h
 split at h
 ·rename_i l n c x w e
  rw [ifp_F, Bool.and_eq_true] at h
  obtain ⟨⟨h1, h2⟩, h3, h4⟩ := h
  cases zs with
  | true => cases h1
  | false =>
   refine ⟨(n, l), ?_, h4⟩
   have e2 : e = i.size := of_beq h2
   simp only [newCells, ifb_false, lenA, ob_eq, om_eq, Option.bind_some, srcCells]
   rw [h2, ifb_true]
   have : sub 0 (Nat.mul n i.size) l = some l := by
    show takeX (Nat.mul n i.size) l = some l
    rw [takeX_some]
    have h3' : l.length = Nat.mul n i.size := by rw [h3, e2]
    exact ⟨by rw [h3']; exact Nat.le_refl _, by rw [List.take_of_length_le (Nat.le_of_eq h3')]⟩
   rw [this]; rfl
 ·rename_i b o n c x e
  rw [ifp_F, Bool.and_eq_true, rowW_iff] at h
  obtain ⟨⟨h1, h2⟩, cs, te, h3, h4, h5⟩ := h
  cases zs with
  | true => cases h1
  | false =>
   refine ⟨(n, _), ?_, h5⟩
   have e2 : e = i.size := of_beq h2
   subst e2
   simp only [newCells, ifb_false, lenA, ob_eq, om_eq, Option.bind_some, srcCells]
   rw [h2, ifb_true, h3, Option.bind_some, sub_of h4]
   rfl
 ·rename_i q n
  rw [ifp_F] at h
  obtain ⟨hz, h1, h2, h3, h4⟩ := h
  subst hz
  refine ⟨(natOf n, repl (natOf n) z.cells), ?_, h4⟩
  have en := natOf_cast h1
  have hle : natOf n ≤ 16777216 := natOf_le (by omega) h2
  generalize natOf n = m at en hle h3 ⊢
  subst en
  simp only [newCells, ifb_true]
  show ifb (and (Nat.ble m 16777216) (roomy m i.bytes)) (some (m, repl m z.cells)) none = _
  rw [show Nat.ble m 16777216 = true from ble_t hle, h3]; rfl
 ·rw [obW_iff] at h
  obtain ⟨q, h1, h2⟩ := h
  exact ⟨q, h1, h2⟩
theorem srcW_sound {st : St} {size n : Nat} {x : AV} {k : List AV → Prop} (h : srcW st size n x k) : ∃ cs, srcCells st size n x = some cs ∧ k cs := by
 unfold srcW at h
 split at h
 ·rw [ifp_F, rowW_iff] at h
  obtain ⟨h1, cs, te, h3, h4, h5⟩ := h
  refine ⟨_, ?_, h5⟩
  simp only [srcCells, h1, ifb_true, ob_eq, h3, Option.bind_some]
  exact sub_of h4
 ·rw [ifp_F] at h
  obtain ⟨h1, h4, h5⟩ := h
  refine ⟨_, ?_, h5⟩
  simp only [srcCells, h1, ifb_true]
  rw [sub_of (by rw [Nat.zero_add]; exact h4), List.drop_zero]
 ·exact obW_iff.1 h
theorem srcCells_zero {st : St} {size : Nat} {x : AV} {cs : List AV} (h : srcCells st size 0 x = some cs) : cs = [] := by
 unfold srcCells at h
 have hz : Nat.mul 0 size = 0 := Nat.zero_mul _
 split at h
 ·rw [ifb_none] at h
  simp only [ob_some, hz] at h
  obtain ⟨_, r, _, h⟩ := h
  exact List.length_eq_zero_iff.1 (sub_some h).2.2
 ·injection h with h; exact h.symm
 ·simp only [ifb_none, om_some] at h
  obtain ⟨_, l, h1, rfl⟩ := h
  rw [takeX_some] at h1
  rw [h1.2]; rfl
 ·rw [ifb_none, hz] at h
  exact List.length_eq_zero_iff.1 (sub_some h.2).2.2
 ·cases h
theorem put_same {α : Type} {x : α} : ∀ (n : Nat) (t : Tr α) (k : Nat), k < n → t.get k = some x → Tr.put (some x) n t k = t
 | 0, t, k, h, _ => by omega
 | n + 1, .leaf, k, h, hg => by simp [Tr.get_leaf] at hg
 | n + 1, .node l v r, k, h, hg => by
  rw [Tr.put_node]
  rw [Tr.get_node] at hg
  by_cases hk : k = 0
  ·rw [if_pos hk] at hg ⊢; rw [hg]
  ·rw [if_neg hk] at hg ⊢
   by_cases h2 : k % 2 = 1
   ·rw [if_pos h2] at hg ⊢; rw [put_same n l _ (by omega) hg]
   ·rw [if_neg h2] at hg ⊢; rw [put_same n r _ (by omega) hg]
theorem St.put_same {st : St} {b : Nat} {o : Ob} (h : st.heap.get b = some o) : st.put b o = st := by
 show (⟨st.heap.set b o, st.next, st.vm, st.gl, st.rw⟩ : St) = st
 rw [show st.heap.set b o = st.heap from Go.Det.put_same _ _ _ (Nat.lt_succ_self _) h]
theorem rowOf_get {st : St} {b : Nat} {cs : List AV} {e : TypeId} (h : rowOf st b = some (cs, e)) : st.heap.get b = some (.row cs e) := by
 unfold rowOf at h
 rw [ob_some] at h
 obtain ⟨o, h1, h2⟩ := h
 cases o <;> simp at h2
 obtain ⟨rfl, rfl⟩ := h2
 exact h1
theorem copyW_sound {st : St} {dT : TypeId} {d s : AV} {k : AV → St → Prop} (h : copyW P st dT d s k) : ∃ v st', copyA P st dT d s = some (v, st') ∧ k v st' := by
 unfold copyW at h
 split at h
 ·rename_i b o len cap ex e'
  rw [obW_iff] at h
  obtain ⟨u, hu, h⟩ := h
  split at h
  ·rename_i elem
   simp only [obW_iff] at h
   obtain ⟨e, he, m, hm, n, hn, h⟩ := h
   rw [ifp_F] at h
   obtain ⟨h1, h⟩ := h
   obtain ⟨cs, h2, h⟩ := srcW_sound h
   rw [rowW_iff] at h
   obtain ⟨rc, te, h3, h⟩ := h
   rw [ifp_F] at h
   obtain ⟨h4, h5, h6⟩ := h
   have h2' : srcCells st e (ifb (Nat.ble m n) m n) s = some cs := h2
   refine ⟨_, _, ?_, h6⟩
   simp only [copyA, hu, ob_eq, he, Option.bind_some, hm, hn, h2', h1, ifb_true]
   by_cases hq : ifb (Nat.ble m n) m n = 0
   ·have hcs : cs = [] := by rw [hq] at h2'; exact srcCells_zero h2'
    subst hcs
    rw [beq_t hq, ifb_true]
    show some (AV.int .i64 0, st) = some (AV.int .i64 (.ofNat (ifb (Nat.ble m n) m n)), _)
    rw [hq]
    have : setAt o [] rc = rc := by simp [setAt]
    rw [this, St.put_same (rowOf_get h3)]
    rfl
   ·rw [beq_f hq, ifb_false]
    simp only [storeCellsA, ob_eq, h3, Option.bind_some, h4, ifb_true, om_eq, overAt_of h5]
    rfl
  ·exact h.elim
 ·rw [obW_iff] at h
  obtain ⟨p, h1, h2⟩ := h
  exact ⟨p.1, p.2, h1, h2⟩
theorem makeW_sound {vm : Bool} {name : Nat} {t : TypeId} {l c : AV} {k : AV → Ob → Prop} (h : makeW P vm name t l c k) : ∃ v o, makeSliceA P vm name t l c = some (v, o) ∧ k v o := by
 unfold makeW at h
 split at h
 ·rename_i q n q2 m
  rw [obW_iff] at h
  obtain ⟨u, hu, h⟩ := h
  split at h
  ·rename_i elem
   simp only [obW_iff] at h
   obtain ⟨i, hi, z, hz, h⟩ := h
   rw [ifp_F, Bool.and_eq_true] at h
   obtain ⟨⟨h1, h2⟩, n0, nm, mm, hr, h⟩ := h
   have en := natOf_cast n0
   have em := natOf_cast (show 0 ≤ m by omega)
   have hle : natOf n ≤ natOf m := natOf_le n0 (by rw [em] at nm; exact nm)
   have hmm : natOf m ≤ 16777216 := natOf_le (by omega) mm
   have key : ∀ v o, (ifb vm (ifb (Nat.beq (natOf n) 0) (some (AV.vs [] 0 (natOf m) true (some name) i.size, Ob.spare)) none) (some (.slice name 0 (natOf n) (natOf m) true i.size, .row (repl (natOf m) z.cells) elem))) = some (v, o) →
     makeSliceA P vm name t (.int q n) (.int q2 m) = some (v, o) := by
    intro v o e
    rw [en, em]
    simp only [makeSliceA, hu, ob_eq, hi, hz, Option.bind_some]
    rw [show Nat.ble (natOf n) (natOf m) = true from ble_t hle, show Nat.ble (natOf m) 16777216 = true from ble_t hmm, hr]
    simp only [Bool.and_self, ifb_true, h1, h2]
    exact e
   rcases ifp_iff.1 h with ⟨rfl, h3, h4⟩ | ⟨rfl, h4⟩
   ·subst h3
    exact ⟨_, _, key _ _ rfl, h4⟩
   ·exact ⟨_, _, key _ _ rfl, h4⟩
  ·exact h.elim
 ·exact h.elim
theorem freshW_sound {vm : Bool} {T : Tr AV} {name : Nat} {op : Op} {k : AV → Ob → Prop} (h : freshW P vm T name op k) : ∃ v o, freshA P vm T name op = some (v, o) ∧ k v o := by
 unfold freshW at h
 split at h
 ·simp only [obW_iff] at h
  obtain ⟨a, h1, b, h2, h⟩ := h
  obtain ⟨v, o, h3, h4⟩ := makeW_sound h
  exact ⟨v, o, by simp only [freshA, ob_eq, h1, h2, Option.bind_some]; exact h3, h4⟩
 ·rw [obW_iff] at h
  obtain ⟨q, h1, h2⟩ := h
  exact ⟨q.1, q.2, h1, h2⟩
theorem appendW_sound {sym : TypeId → Bool} {st : St} {sT : TypeId} {xT : Option TypeId} {s x : AV} {k : AV → St → Prop} (h : appendW P sym st sT xT s x k) : ∃ v st', appendA P st sT xT s x = some (v, st') ∧ k v st' := by
 unfold appendW at h
 rw [obW_iff] at h
 obtain ⟨d, hd, h⟩ := h
 split at h
 ·rename_i elem
  simp only [obW_iff] at h
  obtain ⟨i, hi, z, hz, zs, hzs, h⟩ := h
  obtain ⟨q, hq, h⟩ := newW_sound h
  rw [ifp_F] at h
  obtain ⟨hc, h⟩ := h
  unfold ontoW at h
  split at h
  ·rcases ifp_iff.1 h with ⟨hvm, h⟩ | ⟨hvm, h⟩
   ·rcases ifp_iff.1 h with ⟨h1, h⟩ | ⟨h1, h⟩
    ·exact ⟨_, _, by simp only [appendA, hd, ob_eq, hi, hz, hzs, hq, Option.bind_some, hc, ifb_true, h1], h⟩
    ·rw [ifp_F] at h
     exact ⟨_, _, by simp only [appendA, hd, ob_eq, hi, hz, hzs, hq, Option.bind_some, hc, ifb_true, h1, ifb_false, h.1, hvm], h.2⟩
   ·rcases ifp_iff.1 h with ⟨_, h1, h2, h3⟩ | ⟨_, h⟩
    ·exact ⟨_, _, by simp only [appendA, hd, ob_eq, hi, hz, hzs, hq, Option.bind_some, hc, ifb_true, show Nat.beq q.1 0 = false from beq_f h1, ifb_false, h2, hvm], h3⟩
    ·obtain ⟨p, h1, h2⟩ := h
     exact ⟨p.1, p.2, h1, h2⟩
  ·rename_i l len cap ex own e
   rw [ifp_F] at h
   obtain ⟨he, h⟩ := h
   split at h
   ·rename_i b
    rw [ifp_F] at h
    obtain ⟨h2, h⟩ := h
    rw [obW_iff] at h
    obtain ⟨u, h3, h⟩ := h
    exact ⟨_, _, by simp only [appendA, hd, ob_eq, hi, hz, hzs, hq, Option.bind_some, hc, ifb_true, he, h2, h3], h⟩
   ·rcases ifp_iff.1 h with ⟨h1, h⟩ | ⟨h1, h⟩
    ·exact ⟨_, _, by simp only [appendA, hd, ob_eq, hi, hz, hzs, hq, Option.bind_some, hc, ifb_true, he, h1], h⟩
    ·rw [ifp_F] at h
     obtain ⟨h2, h⟩ := h
     rw [ifp_F] at h
     exact ⟨_, _, by simp only [appendA, hd, ob_eq, hi, hz, hzs, hq, Option.bind_some, hc, ifb_true, he, h1, ifb_false, h2, h.1], h.2⟩
  ·rename_i b o len cap ex e _
   rw [rowW_iff] at h
   obtain ⟨rc, te, h0, h⟩ := h
   have e1 : Nat.mul len e = rc.length → sub 0 (Nat.mul len e) rc = some rc := fun h3 => by
    show takeX (Nat.mul len e) rc = some rc
    rw [takeX_some, h3]; exact ⟨Nat.le_refl _, by rw [List.take_of_length_le (Nat.le_refl _)]⟩
   rcases ifp_iff.1 h with ⟨hx, h⟩ | ⟨_, h⟩
   ·simp only [Bool.and_eq_true] at hx
    obtain ⟨_, he⟩ := hx
    rcases ifp_iff.1 h with ⟨hex, h1, h2, h3, h4, h5⟩ | ⟨hex, ⟨h1, h2, h3, h4, h5⟩ | ⟨h1, h2, h3, h5⟩⟩
    ·subst hex
     subst h2
     exact ⟨_, _, by simp only [appendA, hd, ob_eq, hi, hz, hzs, hq, Option.bind_some, hc, ifb_true, he, show Nat.ble (Nat.add len q.1) cap = false from ble_f h1, ifb_false, h4, h0, e1 h3], h5⟩
    ·subst hex
     subst h2
     have e2 : Nat.beq (Nat.add 0 (Nat.mul len e)) rc.length = true := beq_t (by rw [h3]; exact Nat.zero_add _)
     exact ⟨_, _, by simp only [appendA, hd, ob_eq, hi, hz, hzs, hq, Option.bind_some, hc, ifb_true, he, show Nat.ble (Nat.add len q.1) cap = false from ble_f h1, ifb_false, h4, h0, e1 h3, e2, Nat.beq, Bool.and_self], h5⟩
    ·subst hex
     obtain ⟨hsc, hc2⟩ : allScalar q.2 = true ∧ Nat.beq z.cells.length i.size = true := by rw [Bool.and_eq_true] at hc; exact hc
     exact ⟨_, _, by simp only [appendA, hd, ob_eq, hi, hz, hzs, hq, Option.bind_some, hsc, hc2, Bool.and_self, ifb_true, he, show Nat.ble (Nat.add len q.1) cap = true from ble_t h1, show Nat.beq q.1 0 = false from beq_f h2, ifb_false, storeCellsA, h0, om_eq, overAt_of h3, Option.map_some]; rfl, h5⟩
   ·obtain ⟨p, h1, h2⟩ := h
    exact ⟨p.1, p.2, h1, h2⟩
  ·obtain ⟨p, h1, h2⟩ := h
   exact ⟨p.1, p.2, h1, h2⟩
 ·exact h.elim
theorem valW_sound {R k : AV → Prop} {d : TypeDesc} (h : valW R k d) : ∃ v, R v ∧ k v := by
 unfold valW at h
 split at h
 ·obtain ⟨x, h1, h2⟩ := h; exact ⟨_, h1, h2⟩
 ·obtain ⟨x, h1, h2⟩ := h; exact ⟨_, h1, h2⟩
 ·obtain ⟨x, h1, h2⟩ := h; exact ⟨_, h1, h2⟩
 ·obtain ⟨l', n, c, x, w, e, h1, h2⟩ := h; exact ⟨_, h1, h2⟩
 ·exact h
theorem mapW_sound {sym : TypeId → Bool} {st : St} {t : TypeId} {m k : AV} {els : Prop} {kk : Nat → List AEntry → Nat → TypeId → Prop} (h : mapW P sym st t m k els kk) :
  els ∨ ∃ b key elem q, m = .map b ∧ P.underlying t = some (.map key elem) ∧ keyKind P key k = true ∧ mapOf st b = some q ∧ kk b q.1 q.2 elem := by
 unfold mapW at h
 split at h
 ·rcases ifp_iff.1 h with ⟨_, h⟩ | ⟨_, h⟩
  ·rw [obW_iff] at h
   obtain ⟨d, hd, h⟩ := h
   split at h
   ·rw [ifp_F, obW_iff] at h
    obtain ⟨h1, ⟨es, c⟩, h2, h3⟩ := h
    exact .inr ⟨_, _, _, _, rfl, hd, h1, h2, h3⟩
   ·exact h.elim
  ·exact .inl h
 ·exact .inl h
theorem lookupW_sound {sym : TypeId → Bool} {st : St} {t : TypeId} {m k : AV} {ok : Bool} {Q : AV → Prop} (h : lookupW P sym st t m k ok Q) : ∃ v, lookupA P st t m k ok = some v ∧ Q v := by
 rcases mapW_sound h with h | ⟨b, key, elem, q, rfl, h1, h2, h3, h⟩
 ·exact obW_iff.1 h
 ·rw [obW_iff] at h
  obtain ⟨z, hz, h⟩ := h
  rw [obW_iff] at h
  obtain ⟨d, hd, c, h⟩ := h
  obtain ⟨v, ⟨r, k1, k2, k3⟩, h⟩ := valW_sound h
  refine ⟨_, ?_, h⟩
  simp only [lookupA, h1, h2, ifb_true, entriesOf, om_eq, h3, Option.map_some, ob_eq, Option.bind_some, k1]
  cases r with
  | none => subst k2; subst k3; simp only [hz, Option.map_some]; rfl
  | some p => subst k2; subst k3; rfl
theorem mapUpdateW_sound {sym : TypeId → Bool} {st : St} {t : TypeId} {m k v : AV} {Q : St → Prop} (h : mapUpdateW P sym st t m k v Q) : ∃ st', mapUpdateA P st t m k v = some st' ∧ Q st' := by
 rcases mapW_sound h with h | ⟨b, key, elem, q, rfl, h1, h2, h3, es', c', ⟨r, k1, k2⟩, h⟩
 ·exact obW_iff.1 h
 ·refine ⟨_, ?_, h⟩
  simp only [mapUpdateA, h1, h2, ifb_true, h3, ob_eq, Option.bind_some, k1, om_eq, Option.map_some]
  cases r with
  | none => obtain ⟨rfl, rfl⟩ := k2; rfl
  | some p => obtain ⟨rfl, rfl⟩ := k2; rfl
theorem mapEntryW_sound {sym : TypeId → Bool} {st : St} {t : TypeId} {m k : AV} {Q : AV → St → Prop} (h : mapEntryW P sym st t m k Q) : ∃ v st', mapEntryA P st t m k = some (v, st') ∧ Q v st' := by
 rcases mapW_sound h with h | ⟨b, key, elem, q, rfl, h1, h2, h3, h⟩
 ·obtain ⟨⟨v, s⟩, h1, h2⟩ := obW_iff.1 h; exact ⟨v, s, h1, h2⟩
 ·rw [obW_iff] at h
  obtain ⟨z, hz, h⟩ := h
  rw [obW_iff] at h
  obtain ⟨d, hd, n, es', c', h⟩ := h
  obtain ⟨v, ⟨r, k1, k2⟩, h⟩ := valW_sound h
  refine ⟨_, _, ?_, h⟩
  simp only [mapEntryA, h1, h2, ifb_true, h3, ob_eq, Option.bind_some, k1, om_eq]
  cases r with
  | none => obtain ⟨rfl, rfl, rfl, rfl⟩ := k2; simp only [hz, Option.map_some]
  | some p => obtain ⟨rfl, ⟨e, he, rfl⟩, rfl, rfl⟩ := k2; simp only [he, Option.map_some]
theorem entryStoreW_sound {sym : TypeId → Bool} {st : St} {t : TypeId} {m s v : AV} {Q : St → Prop} (h : entryStoreW sym st t m s v Q) : ∃ st', entryStoreA st m s v = some st' ∧ Q st' := by
 unfold entryStoreW at h
 split at h
 ·rcases ifp_iff.1 h with ⟨_, h⟩ | ⟨_, h⟩
  ·rw [obW_iff] at h
   obtain ⟨⟨es, c⟩, h1, es', ⟨h2, i, h3, rfl⟩, h⟩ := h
   refine ⟨_, ?_, h⟩
   simp only [entryStoreA, show Nat.ble _ 9223372036854775807 = true from ble_t h2, ifb_true, h1, ob_eq, Option.bind_some, h3, om_eq, Option.map_some]
  ·exact obW_iff.1 h
 ·exact obW_iff.1 h
theorem deleteW_sound {sym : TypeId → Bool} {st : St} {t : TypeId} {m k : AV} {Q : St → Prop} (h : deleteW P sym st t m k Q) : ∃ st', deleteA P st t m k = some st' ∧ Q st' := by
 rcases mapW_sound h with h | ⟨b, key, elem, q, rfl, h1, h2, h3, es', ⟨r, k1, rfl⟩, h⟩
 ·exact obW_iff.1 h
 ·refine ⟨_, ?_, h⟩
  simp only [deleteA, h1, h2, ifb_true, h3, ob_eq, Option.bind_some, k1, om_eq, Option.map_some]
  cases r <;> rfl
theorem ltYesW_sound {op : BinOp} {t : TypeId} {x y : AV} {k : AV → Prop} (h : ltYesW op x y k) : ∃ v, binA P op t x y = some v ∧ k v := by
 unfold ltYesW at h
 split at h
 ·rename_i j a j' b
  rw [ifp_F] at h
  obtain ⟨h1, h2, h3⟩ := h
  exact ⟨_, by simp only [binA, isShift, ifb_false, h1, ifb_true, binInt, show leInt b a = false by rw [leInt_eq]; exact decide_eq_false (by omega)]; rfl, h3⟩
 ·rename_i j a j' b
  rw [ifp_F] at h
  obtain ⟨h1, h2, h3⟩ := h
  exact ⟨_, by simp only [binA, isShift, ifb_false, h1, ifb_true, binInt, show leInt a b = true by rw [leInt_eq]; exact decide_eq_true h2], h3⟩
 ·rename_i j a j' b
  rw [ifp_F] at h
  obtain ⟨h1, h2, h3⟩ := h
  exact ⟨_, by simp only [binA, isShift, ifb_false, h1, ifb_true, binInt, show leInt a b = false by rw [leInt_eq]; exact decide_eq_false (by omega)]; rfl, h3⟩
 ·rename_i j a j' b
  rw [ifp_F] at h
  obtain ⟨h1, h2, h3⟩ := h
  exact ⟨_, by simp only [binA, isShift, ifb_false, h1, ifb_true, binInt, show leInt b a = true by rw [leInt_eq]; exact decide_eq_true h2], h3⟩
 ·rename_i j a j' b
  rw [ifp_F] at h
  obtain ⟨h1, h2, h3⟩ := h
  have e : eqInt a b = false := by rw [← Bool.not_eq_true, eqInt_iff]; exact h2
  exact ⟨_, by simp only [binA, isShift, ifb_false, h1, ifb_true, binInt, e], h3⟩
 ·exact h.elim
theorem aopW_sound {T : Tr AV} {st : St} {op : Op} {kv : AV → St → Prop} {kc : FuncId → List AV → Prop} {ky kd : Nat → List AV → Prop} {fl : Flags} (h : aopW fl P T st op kv kc ky kd) : Takes (aop P T st op) kv kc ky kd := by
 unfold aopW at h
 split at h
 ·rename_i t a
  rw [obW_iff] at h
  obtain ⟨av, h1, h⟩ := h
  obtain ⟨v, h2, h3⟩ := loadW_sound h
  exact ⟨.val v st, by simp only [ob_eq] at h2; simp only [aop, ob_eq, h1, Option.bind_some]; exact h2, h3⟩
 ·rename_i t a v
  simp only [obW_iff] at h
  obtain ⟨av, h1, vv, h2, h⟩ := h
  obtain ⟨st', h3, h4⟩ := storeW_sound h
  exact ⟨.val undefA st', by simp only [aop, ob_eq, h1, h2, Option.bind_some]; exact h3, h4⟩
 ·rename_i t l c
  obtain ⟨v, o, h1, h2⟩ := freshW_sound h
  exact ⟨.val v (st.new o), by simp only [aop, freshR, h1, om_eq]; rfl, h2⟩
 ·rename_i op t x y yt
  simp only [obW_iff] at h
  obtain ⟨a, h1, b, h2, h⟩ := h
  rw [ifp_F] at h
  obtain ⟨h3, h⟩ := h
  obtain ⟨v, h4, h5⟩ : ∃ v, binA P op t a b = some v ∧ kv v st := by
   rcases ifp_iff.1 h with ⟨_, h⟩ | ⟨_, h⟩
   ·exact ltYesW_sound h
   rcases ifp_iff.1 h with ⟨_, h⟩ | ⟨_, h⟩
   ·exact binYesW_sound h
   ·exact binW_sound h
  exact ⟨.val v st, by simp only [aop, ob_eq, h1, h2, Option.bind_some, h3, ifb_true, h4]; rfl, h5⟩
 ·rename_i t x i
  simp only [obW_iff] at h
  obtain ⟨a, h1, b, h2, h⟩ := h
  obtain ⟨v, h4, h5⟩ := indexAddrW_sound h
  exact ⟨.val v st, by simp only [aop, ob_eq, h1, h2, Option.bind_some, h4]; rfl, h5⟩
 ·rename_i t x lo hi mx
  simp only [obW_iff] at h
  obtain ⟨a, h1, l, h2, hh, h3, m, h4, h⟩ := h
  obtain ⟨v, h5, h6⟩ := sliceW_sound h
  exact ⟨.val v st, by simp only [aop, ob_eq, h1, h2, h3, h4, Option.bind_some, h5]; rfl, h6⟩
 ·rename_i c
  rcases ifp_iff.1 h with ⟨hc, h⟩ | ⟨hc, h⟩
  ·obtain ⟨callee, args, at_⟩ := c
   dsimp only at hc h
   unfold isAppend at hc
   split at hc
   ·rw [obW_iff] at h
    obtain ⟨asl, h1, h⟩ := h
    split at h
    ·rename_i s x t r he
     obtain ⟨v, st', h2, h3⟩ := appendW_sound h
     exact ⟨.val v st', by simp only [aop, builtinA, ob_eq, h1, Option.bind_some, arg2]; rw [he]; simp only [h2]; rfl, h3⟩
    ·exact h.elim
   ·cases hc
  ·rcases ifp_iff.1 h with ⟨hc2, h⟩ | ⟨hc2, h⟩
   ·obtain ⟨callee, args, at_⟩ := c
    dsimp only at hc hc2 h
    unfold isCopy at hc2
    split at hc2
    ·rw [obW_iff] at h
     obtain ⟨asl, h1, h⟩ := h
     split at h
     ·rename_i d s t r he
      obtain ⟨v, st', h2, h3⟩ := copyW_sound h
      exact ⟨.val v st', by simp only [aop, builtinA, ob_eq, h1, Option.bind_some, arg2]; rw [he]; simp only [h2]; rfl, h3⟩
     ·exact h.elim
    ·cases hc2
   ·rcases ifp_iff.1 h with ⟨hc3, h⟩ | ⟨hc3, h⟩
    ·obtain ⟨callee, args, at_⟩ := c
     dsimp only at hc hc2 hc3 h
     unfold isDelete at hc3
     split at hc3
     ·rw [obW_iff] at h
      obtain ⟨asl, h1, h⟩ := h
      split at h
      ·rename_i m k t r he
       obtain ⟨st', h2, h3⟩ := deleteW_sound h
       exact ⟨.val undefA st', by simp only [aop, builtinA, ob_eq, h1, Option.bind_some, arg2]; rw [he]; simp only [h2]; rfl, h3⟩
      ·exact h.elim
     ·cases hc3
    ·obtain ⟨r, h1, h2⟩ := obW_iff.1 h
     exact ⟨r, h1, h2⟩
 ·rename_i t x i ok
  simp only [obW_iff] at h
  obtain ⟨a, h1, b, h2, h⟩ := h
  obtain ⟨v, h3, h4⟩ := lookupW_sound h
  exact ⟨.val v st, by simp only [aop, ob_eq, h1, h2, Option.bind_some, h3]; rfl, h4⟩
 ·rename_i t m k x
  simp only [obW_iff] at h
  obtain ⟨a, h1, b, h2, c, h3, h⟩ := h
  obtain ⟨st', h4, h5⟩ := mapUpdateW_sound h
  exact ⟨.val undefA st', by simp only [aop, ob_eq, h1, h2, h3, Option.bind_some, h4]; rfl, h5⟩
 ·rename_i t m k
  simp only [obW_iff] at h
  obtain ⟨a, h1, b, h2, h⟩ := h
  obtain ⟨v, st', h4, h5⟩ := mapEntryW_sound h
  exact ⟨.val v st', by simp only [aop, ob_eq, h1, h2, Option.bind_some, h4]; rfl, h5⟩
 ·rename_i t m s x
  simp only [obW_iff] at h
  obtain ⟨a, h1, b, h2, c, h3, h⟩ := h
  obtain ⟨st', h4, h5⟩ := entryStoreW_sound h
  exact ⟨.val undefA st', by simp only [aop, ob_eq, h1, h2, h3, Option.bind_some, h4]; rfl, h5⟩
 ·obtain ⟨r, h1, h2⟩ := obW_iff.1 h
  exact ⟨r, h1, h2⟩
end Go.Det
namespace Go.Det
variable {P : Program}
structure RecOkW (P : Program) (r : RecW) : Prop where
 code : ∀ ro fn nt c T D st Q, r.code ro fn nt c T D st Q → ∃ o, CodeS P ro fn nt c T D st o ∧ Q o
 call : ∀ f args st Q, r.call f args st Q → ∃ v st', CallS P f args st v st' ∧ Q v st'
theorem splitW_sound {v : AV} {k : AV → Prop} (h : splitW v k) : k v := by
 cases v
 case bool b => cases b <;> exact h
 all_goals exact h
theorem splitF_sound {ns : Bool} {v : AV} {k : AV → Prop} (h : splitF ns v k) : k v := by
 cases ns with
 | true => exact h
 | false => exact splitW_sound h
theorem flAt_ok {K : Known} {r : RecW} {fn : FuncId} {id : Nat} (h : RecOkW P r) : RecOkW P (flAt K r fn id) := ⟨h.code, h.call⟩
open Classical in
noncomputable def rec1 (f : FuncId) (args : List AV) (st : St) (p : AV × St) : Rec :=
 ⟨fun _ _ _ _ _ _ _ => none, fun f' args' st' => if f' = f ∧ args' = args ∧ st' = st then some p else none, fun _ _ _ => none⟩
theorem rec1_at (f : FuncId) (args : List AV) (st : St) (p : AV × St) : (rec1 f args st p).call f args st = some p := by simp [rec1]
open Classical in
theorem rec1_ok {f : FuncId} {args : List AV} {st : St} {p : AV × St} (h : CallS P f args st p.1 p.2) : CodeOk P (rec1 f args st p) ∧ CallOk P (rec1 f args st p).call := by
 constructor
 ·intro ro fn nt c T D st o h
  change none = some _ at h
  cases h
 ·intro f' a' s' v1 s1 h1
  change (if f' = f ∧ a' = args ∧ s' = st then some p else none) = some (v1, s1) at h1
  by_cases c : f' = f ∧ a' = args ∧ s' = st
  ·rw [if_pos c] at h1
   obtain ⟨rfl, rfl, rfl⟩ := c
   injection h1 with h1; subst h1
   exact h
  ·rw [if_neg c] at h1; cases h1
theorem fail_ok : CodeOk P recFail ∧ CallOk P recFail.call := by
 constructor
 ·intro ro fn nt c T D st o h
  change none = some _ at h
  cases h
 ·intro f' a' s' v1 s1 h1
  change none = some _ at h1
  cases h1
theorem putW_sound {nt : Nat} {T : Tr AV} {dst : Option Tmp} {v : AV} {k : Tr AV → Prop} (h : putW nt T dst v k) : ∃ T', putDst nt T dst v = some T' ∧ k T' := by
 cases dst with
 | none => exact ⟨T, rfl, h⟩
 | some d =>
  change ifp (Nat.ble (Nat.succ d) nt) (k (T.set d v)) False at h
  rw [ifp_F] at h
  exact ⟨_, by show ifb _ _ _ = _; rw [h.1]; rfl, h.2⟩
structure Ask where
 ro : Option Nat
 fn : FuncId
 nt : Nat
 c : Code
 T : Tr AV
 D : List ADef
 st : St
def Ask.S (P : Program) (a : Ask) (o : Out) : Prop := CodeS P a.ro a.fn a.nt a.c a.T a.D a.st o
open Classical in
noncomputable def rec2 (a b : Ask) (oa ob : Out) : Rec :=
 ⟨fun ro fn nt c T D st => if Ask.mk ro fn nt c T D st = a then some oa else if Ask.mk ro fn nt c T D st = b then some ob else none, fun _ _ _ => none, fun _ _ _ => none⟩
open Classical in
theorem rec2_ok {a b : Ask} {oa ob : Out} (ha : a.S P oa) (hb : b.S P ob) : CodeOk P (rec2 a b oa ob) ∧ CallOk P (rec2 a b oa ob).call := by
 constructor
 ·intro ro fn nt c T D st o h
  change (if Ask.mk ro fn nt c T D st = a then some oa else if Ask.mk ro fn nt c T D st = b then some ob else none) = some o at h
  by_cases q : Ask.mk ro fn nt c T D st = a
  ·rw [if_pos q] at h
   injection h with h; subst h; subst q
   exact ha
  ·rw [if_neg q] at h
   by_cases q2 : Ask.mk ro fn nt c T D st = b
   ·rw [if_pos q2] at h
    injection h with h; subst h; subst q2
    exact hb
   ·rw [if_neg q2] at h; cases h
 ·intro f' a' s' v1 s1 h1
  change none = some _ at h1
  cases h1
theorem setAllW_sound {nt : Nat} {k : Tr AV → Prop} : ∀ {ps : List Tmp} {vs : List AV} {T : Tr AV}, setAllW nt k T ps vs → ∃ T', setAll nt T ps vs = some T' ∧ k T'
 | [], [], T, h => ⟨T, rfl, h⟩
 | p :: ps, v :: vs, T, h => by
  simp only [setAllW, ifp_F] at h
  obtain ⟨T', h1, h2⟩ := setAllW_sound h.2
  exact ⟨T', by simp only [setAll, h.1, ifb_true, h1], h2⟩
 | [], _ :: _, T, h => h.elim
 | _ :: _, [], T, h => h.elim
open Classical in
theorem yieldW_sound {r : RecW} (hr : RecOkW P r) {l : Nat} {args : List AV} {st : St} {k : Bool → St → Prop} (h : yieldW r l args st k) :
    ∃ r0 : Rec, CodeOk P r0 ∧ CallOk P r0.call ∧ ∃ b st', yieldA r0 l args st = some (.bool b, st') ∧ k b st' := by
  unfold yieldW at h
  rw [obW_iff] at h
  obtain ⟨p, hp, h⟩ := h
  have hps : p.state = .ready := by
    cases hs : p.state with
    | ready => rfl
    | busy => rw [hs] at h; exact h.elim
    | done => rw [hs] at h; exact h.elim
    | exhausted => rw [hs] at h; exact h.elim
  rw [hps] at h
  obtain ⟨T, hT, h⟩ := setAllW_sound h
  obtain ⟨⟨e1, T1, D1, st1⟩, h1, h⟩ := hr.code _ _ _ _ _ _ _ _ h
  cases e1 with
  | exit i => exact False.elim h
  | ret => exact False.elim h
  | normal =>
  obtain ⟨q, hq, h⟩ := obW_iff.1 (show obW (loopOf st1 l) _ from h)
  cases hs : q.state with
  | ready =>
    rw [hs] at h
    obtain ⟨⟨e2, T2, D2, st2⟩, h2, h⟩ := hr.code _ _ _ _ _ _ _ _ h
    have h' : ifp (isNil D2) (obW (loopOf st2 l) fun q2 => Ex.rec (motive := fun _ => Prop)
            (k true (st2.put l (.loop { q2 with state := .ready, pending := none })))
            (fun id => k false (st2.put l (.loop { q2 with state := .done, pending := some (.exit id) })))
            (k false (st2.put l (.loop { q2 with state := .done, pending := some .ret }))) e2) False := h
    rw [ifp_F, obW_iff] at h'
    obtain ⟨hn, q2, hq2, h'⟩ := h'
    let a : Ask := ⟨some l, p.fn, p.nt, p.assign, T, [], st⟩
    let b : Ask := ⟨some l, p.fn, p.nt, p.body, T1, D1, st1.put l (.loop { q with state := .busy })⟩
    obtain ⟨oa, ob', hoa, hob, e1, e2'⟩ : ∃ oa ob', a.S P oa ∧ b.S P ob' ∧ (rec2 a b oa ob').code (some l) p.fn p.nt p.assign T [] st = some ⟨.normal, T1, D1, st1⟩ ∧
        (rec2 a b oa ob').code (some l) p.fn p.nt p.body T1 D1 (st1.put l (.loop { q with state := .busy })) = some ⟨e2, T2, D2, st2⟩ := by
      by_cases hab : b = a
      · exfalso
        have e' : st1.put l (.loop { q with state := .busy }) = st := congrArg Ask.st hab
        have hget : loopOf st l = some { q with state := .busy } := by
          rw [← e']
          unfold loopOf
          rw [show (st1.put l (.loop { q with state := .busy })).heap.get l = some (.loop { q with state := .busy }) by show (st1.heap.set l _).get l = _; rw [Tr.get_set, if_pos rfl]]
          rfl
        rw [hp] at hget
        injection hget with hget
        rw [hget] at hps
        cases hps
      · exact ⟨_, _, h1, h2, by show (if _ then _ else _) = _; rw [if_pos rfl], by show (if _ then _ else _) = _; rw [if_neg (fun e => hab e), if_pos rfl]⟩
    refine ⟨rec2 a b oa ob', (rec2_ok hoa hob).1, (rec2_ok hoa hob).2, ?_⟩
    cases e2 with
    | normal => exact ⟨true, _, by simp only [yieldA, ob_eq, hp, hT, Option.bind_some, e1, hq, hs, e2', hn, ifb_true, om_eq, hq2, Option.map_some], h'⟩
    | exit i => exact ⟨false, _, by simp only [yieldA, ob_eq, hp, hT, Option.bind_some, e1, hq, hs, e2', hn, ifb_true, om_eq, hq2, Option.map_some], h'⟩
    | ret => exact ⟨false, _, by simp only [yieldA, ob_eq, hp, hT, Option.bind_some, e1, hq, hs, e2', hn, ifb_true, om_eq, hq2, Option.map_some], h'⟩
  | busy => rw [hs] at h; exact False.elim h
  | done => rw [hs] at h; exact False.elim h
  | exhausted => rw [hs] at h; exact False.elim h
theorem oneW_sound {r : RecW} (hr : RecOkW P r) {cd : Bool} {nt : Nat} {T : Tr AV} {D : List ADef} {st : St} {o : Oper} {k : Tr AV → List ADef → St → Prop} (h : oneW P r cd nt T D st o k) :
  ∃ r0 : Rec, CodeOk P r0 ∧ CallOk P r0.call ∧ ∃ m, one P r0 cd nt T D st o = some m ∧ k m.tmps m.defers m.st := by
 obtain ⟨x, hx, hk⟩ := aopW_sound h
 cases x with
 | val v st' =>
  obtain ⟨T', h1, h2⟩ := putW_sound (splitF_sound (show splitF r.fl.ns v (fun v => putW nt T o.dst v (fun T => k T D st')) from hk))
  refine ⟨recFail, fail_ok.1, fail_ok.2, ⟨T', D, st'⟩, ?_, h2⟩
  unfold one
  rw [hx]
  show om _ (putDst nt T o.dst v) = _
  rw [h1]; rfl
 | call f args =>
  obtain ⟨v, st', h0, hk⟩ := hr.call _ _ _ _ (show r.call f args st (fun v st' => splitF r.fl.ns v fun v => putW nt T o.dst v fun T => k T D st') from hk)
  obtain ⟨T', h1, h2⟩ := putW_sound (splitF_sound hk)
  refine ⟨rec1 f args st (v, st'), (rec1_ok h0).1, (rec1_ok h0).2, ⟨T', D, st'⟩, ?_, h2⟩
  unfold one
  rw [hx]
  show ob ((rec1 f args st (v, st')).call f args st) _ = _
  rw [rec1_at]
  show om _ (putDst nt T o.dst v) = _
  rw [h1]; rfl
 | yld l args =>
  obtain ⟨r0, hc0, hk0, b, st', h0, h3⟩ := yieldW_sound hr (show yieldW r l args st (fun b st' => putW nt T o.dst (.bool b) fun T => k T D st') from hk)
  obtain ⟨T', h1, h2⟩ := putW_sound h3
  refine ⟨r0, hc0, hk0, ⟨T', D, st'⟩, ?_, h2⟩
  unfold one
  rw [hx]
  show ob (yieldA r0 l args st) _ = _
  rw [h0]
  show om _ (putDst nt T o.dst (.bool b)) = _
  rw [h1]; rfl
 | dfr f args => exact False.elim hk
theorem opsW_sound {r : RecW} (hr : RecOkW P r) {cd : Bool} {nt : Nat} {ops : Array Oper} {kk : Tr AV → List ADef → St → Prop} : ∀ (l : List Oper) (n : Nat) (T : Tr AV) (D : List ADef) (st : St),
  opsW P r cd nt ops.toList kk l T D st → (∀ j, j < l.length → ops[n + j]? = l[j]?) →
  ∃ T' D' st', kk T' D' st' ∧ ∀ (b : Frame) (hb : cd = true → b.roundOf = none) (k : List Item) (cs : List Frame) (idx : List Nat), idx = (List.range l.length).map (n + ·) → ∀ (ρ : Names) (w : World) (tm : Array Value) (df : List Deferred), HR ρ st w → TR ρ nt T tm → DRs ρ D df →
   ∃ ρ' w' tm' df', Goes ρ st w ρ' st' w' ∧ HR ρ' st' w' ∧ TR ρ' nt T' tm' ∧ DRs ρ' D' df' ∧ Steps P (lone (on b tm df (.inRegion ops idx :: k)) cs w) (lone (on b tm' df' k) cs w') := by
 intro l
 induction l with
 | nil =>
  intro n T D st h _
  refine ⟨T, D, st, h, fun b hb k cs idx hidx ρ w tm df hH hT hD => ?_⟩
  simp at hidx; subst hidx
  exact ⟨ρ, w, tm, df, Goes.refl, hH, hT, hD, .one st_regionEnd⟩
 | cons o l ih =>
  intro n T D st h hl
  have ho : ops[n]? = some o := by have := hl 0 (by simp); simpa using this
  have hl' : ∀ j, j < l.length → ops[n + 1 + j]? = l[j]? := fun j hj => by
   have := hl (j + 1) (by simp; omega)
   rw [show n + 1 + j = n + (j + 1) by omega, this]; simp
  have hidx' : ∀ idx : List Nat, idx = (List.range (o :: l).length).map (n + ·) → idx = n :: (List.range l.length).map ((n + 1) + ·) := by
   intro idx hidx
   rw [hidx, List.length_cons, List.range_succ_eq_map, List.map_cons, List.map_map]
   simp only [Nat.add_zero]
   congr 1
   apply List.map_congr_left
   intro j _
   simp [Function.comp]; omega
  change obW (wantedA T ops.toList o) (fun b => ifp b (oneW P r cd nt T D st o fun T D st => opsW P r cd nt ops.toList kk l T D st) (putW nt T o.dst undefA fun T => opsW P r cd nt ops.toList kk l T D st)) at h
  rw [obW_iff] at h
  obtain ⟨bw, h1, h2⟩ := h
  rcases ifp_iff.1 h2 with ⟨hbw, h5⟩ | ⟨hbw, h5⟩ <;> subst hbw
  ·obtain ⟨r0, hc0, hk0, m, h3, h4⟩ := oneW_sound hr h5
   obtain ⟨T', D', st', hkk, sem⟩ := ih (n + 1) _ _ _ h4 hl'
   refine ⟨T', D', st', hkk, fun b hb k cs idx hidx ρ w tm df hH hT hD => ?_⟩
   rw [hidx' idx hidx]
   obtain ⟨ρ1, w1, tm1, df1, g1, H1, T1, D1, s1⟩ := one_sound hc0 hk0 h3 hH hT hD hb ho (wantedA_sound hT h1) ((List.range l.length).map ((n + 1) + ·)) k cs
   obtain ⟨ρ', w', tm', df', g, H, hT', hD', hs⟩ := sem b hb k cs _ rfl ρ1 w1 tm1 df1 H1 T1 D1
   exact ⟨ρ', w', tm', df', g1.trans g, H, hT', hD', s1.trans hs⟩
  ·obtain ⟨T1, h3, h4⟩ := putW_sound h5
   obtain ⟨T', D', st', hkk, sem⟩ := ih (n + 1) _ _ _ h4 hl'
   refine ⟨T', D', st', hkk, fun b hb k cs idx hidx ρ w tm df hH hT hD => ?_⟩
   rw [hidx' idx hidx]
   obtain ⟨ρ', w', tm', df', g, H, hT', hD', hs⟩ := sem b hb k cs _ rfl ρ w (putC tm o.dst Go.undef) df hH (putDst_sound h3 hT (.tuple .nil)) hD
   exact ⟨ρ', w', tm', df', g, H, hT', hD', .head (st_unwanted ho (wantedA_sound hT h1)) hs⟩
theorem drawGo_congr {R R' : Nat → Rec} {nt base : Nat} {ops : List Oper} {bef : List Nat} : ∀ (l : List Oper) (i : Nat) (T : Tr AV) (st : St) (pend : List (Nat × Ob)) (tr : List DEnt),
  (∀ j, i ≤ j → R j = R' j) → drawGo P R nt base ops bef i l T st pend tr = drawGo P R' nt base ops bef i l T st pend tr
 | [], i, T, st, pend, tr, _ => rfl
 | o :: l, i, T, st, pend, tr, h => by
  simp only [drawGo]
  rw [h i (Nat.le_refl _)]
  congr 1; funext m; congr 1; funext wt; congr 1; funext d; congr 1; funext T'
  exact drawGo_congr l _ _ _ _ _ fun j hj => h j (Nat.le_of_succ_le hj)
theorem drawOpW_sound {r : RecW} (hr : RecOkW P r) {base i m : Nat} {T : Tr AV} {st : St} {pend : List (Nat × Ob)} {o : Oper} {k : DRes → Prop} (h : drawOpW P r base i m T st pend o k) :
  ∃ r0 : Rec, CodeOk P r0 ∧ CallOk P r0.call ∧ ∃ d, drawOp P r0 base i m T st pend o = some d ∧ k d := by
 have still : aopW r.fl P T st o.op (fun v _ => splitF r.fl.ns v fun v => k ⟨v, st, none, pend⟩) (fun _ _ => False) (fun _ _ => False) (fun _ _ => False) → ∃ v s1, aop P T st o.op = some (.val v s1) ∧ k ⟨v, st, none, pend⟩ := by
  intro h
  obtain ⟨x, hx, hk⟩ := aopW_sound h
  cases x with
  | val v s1 => exact ⟨v, s1, hx, splitF_sound hk⟩
  | call f asl => exact False.elim hk
  | yld l asl => exact False.elim hk
  | dfr f asl => exact False.elim hk
 unfold drawOpW at h
 cases hkd : kd o.op with
 | pure =>
  rw [hkd] at h
  obtain ⟨v, s1, hx, hk⟩ := still h
  exact ⟨recFail, fail_ok.1, fail_ok.2, _, by unfold drawOp; rw [hkd]; simp only [ob_eq, hx, Option.bind_some], hk⟩
 | read =>
  rw [hkd] at h
  obtain ⟨v, s1, hx, hk⟩ := still h
  exact ⟨recFail, fail_ok.1, fail_ok.2, _, by unfold drawOp; rw [hkd]; simp only [ob_eq, hx, Option.bind_some], hk⟩
 | fresh =>
  rw [hkd] at h
  obtain ⟨v, ob, hq, hk⟩ := freshW_sound (show freshW P st.vm T (Nat.add base i) o.op (fun v ob => k ⟨v, st, some ob, (Nat.add base i, ob) :: pend⟩) from h)
  exact ⟨recFail, fail_ok.1, fail_ok.2, _, by unfold drawOp; rw [hkd]; simp only [om_eq, hq, Option.map_some], hk⟩
 | act =>
  rw [hkd] at h
  obtain ⟨x, hx, hk⟩ := aopW_sound h
  cases x with
  | val v s1 => exact ⟨recFail, fail_ok.1, fail_ok.2, ⟨v, s1, none, (part2 base m pend).no⟩, by unfold drawOp; rw [hkd]; simp only [ob_eq, hx, Option.bind_some], splitF_sound hk⟩
  | call f args =>
   obtain ⟨v, st', h0, hk⟩ := hr.call _ _ _ _ (show r.call f args (addP st (part2 base m pend).yes) (fun v st' => splitF r.fl.ns v fun v => k ⟨v, st', none, (part2 base m pend).no⟩) from hk)
   replace hk := splitF_sound hk
   refine ⟨rec1 f args (addP st (part2 base m pend).yes) (v, st'), (rec1_ok h0).1, (rec1_ok h0).2, ⟨v, st', none, (part2 base m pend).no⟩, ?_, hk⟩
   unfold drawOp; rw [hkd]
   simp only [ob_eq, hx, Option.bind_some, om_eq, rec1_at, Option.map_some]
  | yld l args =>
   obtain ⟨r0, hc0, hk0, b, st', h0, h3⟩ := yieldW_sound hr (show yieldW r l args (addP st (part2 base m pend).yes) (fun b st' => k ⟨.bool b, st', none, (part2 base m pend).no⟩) from hk)
   refine ⟨r0, hc0, hk0, ⟨.bool b, st', none, (part2 base m pend).no⟩, ?_, h3⟩
   unfold drawOp; rw [hkd]
   simp only [ob_eq, hx, Option.bind_some, om_eq, h0, Option.map_some]
  | dfr f asl => exact False.elim hk
theorem drawGoW_sound {r : RecW} (hr : RecOkW P r) {nt base : Nat} {ops : List Oper} {bef : List Nat} {k : List DEnt → Mid → Prop} : ∀ (l : List Oper) (i : Nat) (T : Tr AV) (st : St) (pend : List (Nat × Ob)) (tr : List DEnt),
  drawGoW P r nt base ops bef k i l T st pend tr → ∃ R : Nat → Rec, (∀ j, CodeOk P (R j)) ∧ (∀ j, CallOk P (R j).call) ∧ ∃ q, drawGo P R nt base ops bef i l T st pend tr = some q ∧ k q.1 q.2
 | [], i, T, st, pend, tr, h => ⟨fun _ => recFail, fun _ => fail_ok.1, fun _ => fail_ok.2, _, rfl, h⟩
 | o :: l, i, T, st, pend, tr, h => by
  simp only [drawGoW, obW_iff] at h
  obtain ⟨m, hm, wt, hwt, h⟩ := h
  rcases ifp_iff.1 h with ⟨hbw, h5⟩ | ⟨hbw, h5⟩ <;> subst hbw
  ·obtain ⟨r0, hc0, hk0, d, hd, h6⟩ := drawOpW_sound hr h5
   obtain ⟨T', hT', h7⟩ := putW_sound h6
   obtain ⟨R, hc, hk, q, hq, hkq⟩ := drawGoW_sound hr l _ _ _ _ _ h7
   refine ⟨fun j => if j = i then r0 else R j, fun j => by by_cases e : j = i <;> simp [e, hc0, hc], fun j => by by_cases e : j = i <;> simp [e, hk0, hk], q, ?_, hkq⟩
   simp only [drawGo, ob_eq, hm, hwt, Option.bind_some, ifb_true, if_true]
   rw [hd]
   simp only [Option.bind_some, hT']
   rw [drawGo_congr (R' := R) l _ _ _ _ _ fun j hj => if_neg (by omega)]
   exact hq
  ·obtain ⟨T', hT', h7⟩ := putW_sound h5
   obtain ⟨R, hc, hk, q, hq, hkq⟩ := drawGoW_sound hr l _ _ _ _ _ h7
   refine ⟨R, hc, hk, q, ?_, hkq⟩
   simp only [drawGo, ob_eq, hm, hwt, Option.bind_some, ifb_false]
   rw [hT']
   exact hq
mutual
theorem AV.beq_refl : ∀ u : AV, AV.beq u u = true
  | .bool b => by cases b <;> rfl
  | .int k n => by simp only [AV.beq]; rw [eqKind_iff.2 rfl, ifb_true, eqInt_iff.2 rfl]
  | .str s => eqBytes_iff.2 rfl
  | .ptr a b => by simp only [AV.beq]; rw [beq_t rfl, ifb_true, beq_t rfl]
  | .nilPtr => rfl
  | .slice a b c d e f => by simp only [AV.beq]; repeat rw [beq_t rfl, ifb_true]
                             cases e <;> rfl
  | .nilSlice => rfl
  | .map a => beq_t rfl
  | .nilMap => rfl
  | .func f a b => by simp only [AV.beq]; rw [beq_t rfl, ifb_true, AV.beqs_refl a, ifb_true, AV.beqs_refl b]
  | .yield a => beq_t rfl
  | .nilFunc => rfl
  | .nilIface => rfl
  | .agg a => by simp only [AV.beq]; exact AV.beqs_refl a
  | .tuple a => by simp only [AV.beq]; exact AV.beqs_refl a
  | .vs a b c d e f => by
    simp only [AV.beq]
    rw [AV.beqs_refl a, ifb_true, beq_t rfl, ifb_true, beq_t rfl, ifb_true, eqBool_eq, beq_self_eq_true, ifb_true, beq_t rfl, ifb_true]
    cases e with
    | none => rfl
    | some n => exact beq_t rfl
  | .vptr a b => by simp only [AV.beq]; rw [AV.beqs_refl a, ifb_true, beq_t rfl]
  | .gptr a b => by simp only [AV.beq]; rw [beq_t rfl, ifb_true, beq_t rfl]
  | .iface a b => by simp only [AV.beq]; rw [beq_t rfl, ifb_true, AV.beq_refl b]
theorem AV.beqs_refl : ∀ u : List AV, AV.beqs u u = true
 | [] => rfl
 | a :: l => by simp only [AV.beqs]; rw [AV.beq_refl a, ifb_true, AV.beqs_refl l]
end
theorem readSameW_sound {sym : TypeId → Bool} {T : Tr AV} {st : St} {op : Op} {v : AV} (h : readSameW P sym T st op v) : readSame P T st op v = true := by
 obtain ⟨x, hx, hk⟩ := aopW_sound h
 unfold readSame
 rw [hx]
 cases x with
 | val u s => obtain rfl : u = v := hk; exact AV.beq_refl u
 | call _ _ => exact False.elim hk
 | yld _ _ => exact False.elim hk
 | dfr _ _ => exact False.elim hk
theorem readsOk1W_sound {sym : TypeId → Bool} {bef : List Nat} {rd : Nat} {o : Oper} {e : DEnt} : ∀ (a : Nat) (l : List Oper) (tr : List DEnt), readsOk1W P sym bef rd o e a l tr → readsOk1 P bef rd o e a l tr = true
 | a, x :: l, ea :: tr, h => by
  simp only [readsOk1W] at h
  simp only [readsOk1]
  rcases ifp_iff.1 h with ⟨h1, h⟩ | ⟨h1, h⟩
  ·rw [h1, ifb_true]
   rcases ifp_iff.1 h with ⟨h2, h⟩ | ⟨h2, h⟩
   ·rw [h2, ifb_true]
    obtain ⟨m, hm, h⟩ := obW_iff.1 h
    rw [hm]
    rcases ifp_iff.1 h with ⟨h3, h⟩ | ⟨h3, h⟩
    ·simp only [h3, ifb_true]; exact readsOk1W_sound _ _ _ h
    ·simp only [h3, ifb_false, readSameW_sound h.1, ifb_true]; exact readsOk1W_sound _ _ _ h.2
   ·rw [h2, ifb_false]
    obtain ⟨m, hm, h⟩ := obW_iff.1 h
    rw [hm]
    rcases ifp_iff.1 h with ⟨h3, h⟩ | ⟨h3, h⟩
    ·simp only [h3, ifb_true]; exact readsOk1W_sound _ _ _ h
    ·obtain ⟨e2, he2, h4, h5⟩ := obW_iff.1 h
     cases tr with
     | nil => cases he2
     | cons e3 tr =>
      injection he2 with he2; subst he2
      simp only [h3, ifb_false, readSameW_sound h4, ifb_true]; exact readsOk1W_sound _ _ _ h5
  ·rw [h1, ifb_false, ifb_true]; exact readsOk1W_sound _ _ _ h
 | _, [], _, _ => by simp [readsOk1]
 | _, _ :: _, [], h => by simp [readsOk1W] at h
theorem readsOkW_sound {sym : TypeId → Bool} {bef : List Nat} {ops : List Oper} {tr : List DEnt} {k : Prop} : ∀ (i : Nat) (l : List Oper) (t : List DEnt), readsOkW P sym bef ops tr k i l t → readsOk P bef ops tr i l t = true ∧ k
 | i, o :: l, e :: t, h => by
  simp only [readsOkW] at h
  simp only [readsOk]
  rcases ifp_iff.1 h with ⟨h1, h2, h⟩ | ⟨h1, h⟩
  ·rw [h1, ifb_true, readsOk1W_sound _ _ _ h2, ifb_true]; exact readsOkW_sound _ _ _ h
  ·rw [h1, ifb_false, ifb_true]; exact readsOkW_sound _ _ _ h
 | _, [], _, h => ⟨by simp [readsOk], h⟩
 | _, _ :: _, [], h => by simp [readsOkW] at h
theorem CodeS.seq {ro : Option Nat} {fn : FuncId} {nt : Nat} {x y : Code} {T : Tr AV} {D : List ADef} {st : St} {t1 : Tr AV} {d1 : List ADef} {s1 : St} {o : Out} (ha : CodeS P ro fn nt x T D st ⟨.normal, t1, d1, s1⟩)
  (hb : CodeS P ro fn nt y t1 d1 s1 o) : CodeS P ro fn nt (.seq x y) T D st o := by
 intro ρ w tm df b k cs hH hT hD hbf hro
 obtain ⟨ρ1, w1, tm1, df1, g1, H1, T1, D1, A1⟩ := ha ρ w tm df b (.code y :: k) cs hH hT hD hbf hro
 obtain ⟨ρ2, w2, tm2, df2, g2, H2, T2, D2, A2⟩ := hb ρ1 w1 tm1 df1 b k cs H1 T1 D1 hbf (hro.mono g1.le)
 exact ⟨ρ2, w2, tm2, df2, g1.trans g2, H2, T2, D2, A2.of_steps (.head st_seq A1)⟩
theorem CodeS.seq_stop {ro : Option Nat} {fn : FuncId} {nt : Nat} {x y : Code} {T : Tr AV} {D : List ADef} {st : St} {o : Out} (ha : CodeS P ro fn nt x T D st o) (he : o.ex ≠ .normal) : CodeS P ro fn nt (.seq x y) T D st o := by
 intro ρ w tm df b k cs hH hT hD hbf hro
 obtain ⟨ρ1, w1, tm1, df1, g1, H1, T1, D1, A1⟩ := ha ρ w tm df b (.code y :: k) cs hH hT hD hbf hro
 exact ⟨ρ1, w1, tm1, df1, g1, H1, T1, D1, Arr.of_steps (.one st_seq) (Arr.bind (k' := .code y :: k) (fun _ => rfl) A1 he)⟩
theorem CodeS.loop {ro : Option Nat} {fn : FuncId} {nt : Nat} {y : Code} {T : Tr AV} {D : List ADef} {st : St} {t1 : Tr AV} {d1 : List ADef} {s1 : St} {o : Out} (ha : CodeS P ro fn nt y T D st ⟨.normal, t1, d1, s1⟩)
  (hb : CodeS P ro fn nt (.loop y) t1 d1 s1 o) : CodeS P ro fn nt (.loop y) T D st o := by
 intro ρ w tm df b k cs hH hT hD hbf hro
 obtain ⟨ρ1, w1, tm1, df1, g1, H1, T1, D1, A1⟩ := ha ρ w tm df b (.inLoop y :: k) cs hH hT hD hbf hro
 obtain ⟨ρ2, w2, tm2, df2, g2, H2, T2, D2, A2⟩ := hb ρ1 w1 tm1 df1 b k cs H1 T1 D1 hbf (hro.mono g1.le)
 exact ⟨ρ2, w2, tm2, df2, g1.trans g2, H2, T2, D2, Arr.of_steps (.head st_loop (Steps.trans A1 (.one st_inLoop))) (Arr.cut st_loop A2)⟩
theorem CodeS.loop_stop {ro : Option Nat} {fn : FuncId} {nt : Nat} {y : Code} {T : Tr AV} {D : List ADef} {st : St} {o : Out} (ha : CodeS P ro fn nt y T D st o) (he : o.ex ≠ .normal) : CodeS P ro fn nt (.loop y) T D st o := by
 intro ρ w tm df b k cs hH hT hD hbf hro
 obtain ⟨ρ1, w1, tm1, df1, g1, H1, T1, D1, A1⟩ := ha ρ w tm df b (.inLoop y :: k) cs hH hT hD hbf hro
 exact ⟨ρ1, w1, tm1, df1, g1, H1, T1, D1, Arr.of_steps (.one st_loop) (Arr.bind (k' := .inLoop y :: k) (fun _ => rfl) A1 he)⟩
theorem CodeS.block {ro : Option Nat} {fn : FuncId} {nt : Nat} {y : Code} {id : Nat} {T : Tr AV} {D : List ADef} {st : St} {e : Ex} {t1 : Tr AV} {d1 : List ADef} {s1 : St} (ha : CodeS P ro fn nt y T D st ⟨e, t1, d1, s1⟩) :
  CodeS P ro fn nt (.block id y) T D st ⟨(match e with | .normal => .normal | .exit i => ifb (Nat.beq i id) .normal (.exit i) | .ret => .ret), t1, d1, s1⟩ := by
 intro ρ w tm df b k cs hH hT hD hbf hro
 obtain ⟨ρ1, w1, tm1, df1, g1, H1, T1, D1, A1⟩ := ha ρ w tm df b (.inBlock id :: k) cs hH hT hD hbf hro
 cases e with
 | normal => exact ⟨ρ1, w1, tm1, df1, g1, H1, T1, D1, Steps.head st_block (Steps.trans A1 (.one st_inBlock))⟩
 | exit i =>
  obtain ⟨k2, q1, q2⟩ := A1
  simp only [exitTo] at q1
  by_cases e : i = id
  ·subst e
   simp only [beq_self_eq_true, if_true] at q1
   refine ⟨ρ1, w1, tm1, df1, g1, H1, T1, D1, ?_⟩
   show Arr P _ b k cs (ifb (Nat.beq i i) .normal (.exit i)) _ _ _
   rw [beq_t rfl, ifb_true]
   exact Steps.head st_block (q2.trans (.one (st_exit q1)))
  ·rw [if_neg (by simp; exact fun q => e q.symm)] at q1
   refine ⟨ρ1, w1, tm1, df1, g1, H1, T1, D1, ?_⟩
   show Arr P _ b k cs (ifb (Nat.beq i id) .normal (.exit i)) _ _ _
   rw [beq_f e, ifb_false]
   exact ⟨k2, q1, .head st_block q2⟩
 | ret =>
  obtain ⟨k2, q2⟩ := A1
  exact ⟨ρ1, w1, tm1, df1, g1, H1, T1, D1, k2, .head st_block q2⟩
theorem CodeS.scope {ro : Option Nat} {fn : FuncId} {nt : Nat} {y : Code} {T : Tr AV} {D : List ADef} {st : St} {o : Out} (ha : CodeS P ro fn nt y T D st o) : CodeS P ro fn nt (.scope y) T D st o := by
 intro ρ w tm df b k cs hH hT hD hbf hro
 obtain ⟨ρ1, w1, tm1, df1, g1, H1, T1, D1, A1⟩ := ha ρ w tm df b (.inScope y :: k) cs hH hT hD hbf hro
 obtain ⟨e1, t1, d1, s1⟩ := o
 refine ⟨ρ1, w1, tm1, df1, g1, H1, T1, D1, Arr.of_steps (.one st_scope) ?_⟩
 cases e1 with
 | normal => exact Steps.trans A1 (.one st_inScope)
 | exit id => exact Arr.bind (fun _ => rfl) A1 (by simp)
 | ret => exact Arr.bind (fun _ => rfl) A1 (by simp)
theorem CodeS.cond {ro : Option Nat} {fn : FuncId} {nt : Nat} {x : Operand} {y z : Code} {T : Tr AV} {D : List ADef} {st : St} {o : Out} {t : Bool} (hx : opd T x = some (.bool t)) (ha : CodeS P ro fn nt (if t then y else z) T D st o) :
  CodeS P ro fn nt (.cond x y z) T D st o := by
 intro ρ w tm df b k cs hH hT hD hbf hro
 have hv := evT_sound hT _ _ hx
 obtain ⟨u, hu⟩ : ∃ u, evT tm x = u := ⟨_, rfl⟩
 rw [hu] at hv
 cases hv
 obtain ⟨ρ1, w1, tm1, df1, g1, H1, T1, D1, A1⟩ := ha ρ w tm df b k cs hH hT hD hbf hro
 exact ⟨ρ1, w1, tm1, df1, g1, H1, T1, D1, A1.of_steps (.one (st_cond hu))⟩
theorem codeW_sound (hm : P.follows .mixedOrders = true) {K : Known} {r : RecW} (hr : RecOkW P r) {ro : Option Nat} {fn : FuncId} {nt : Nat} {c : Code} {T : Tr AV} {D : List ADef} {st : St} {Q : Out → Prop}
  (h : codeW P K r ro fn nt c T D st Q) : ∃ o, CodeS P ro fn nt c T D st o ∧ Q o := by
 have nil : ∀ {e : Ex}, (∀ (b : Frame) (tm : Array Value) (df : List Deferred) (k : List Item) (cs : List Frame) (w : World), Arr P (lone (on b tm df (.code c :: k)) cs w) b k cs e tm df w) → CodeS P ro fn nt c T D st ⟨e, T, D, st⟩ :=
  fun ha ρ w tm df b k cs hH hT hD _ _ => ⟨ρ, w, tm, df, Goes.refl, hH, hT, hD, ha b tm df k cs w⟩
 unfold codeW at h
 split at h
 ·exact ⟨_, nil (e := .normal) fun b tm df k cs w => Steps.one st_skip, h⟩
 ·exact ⟨_, nil (e := .normal) fun b tm df k cs w => Steps.one st_label, h⟩
 ·obtain ⟨⟨e, t1, d1, s1⟩, h1, h2⟩ := hr.code _ _ _ _ _ _ _ _ h
  cases e with
  | normal =>
   obtain ⟨o, h3, h4⟩ := hr.code _ _ _ _ _ _ _ _ h2
   exact ⟨o, h1.seq h3, h4⟩
  | exit i => exact ⟨_, h1.seq_stop (by simp), h2⟩
  | ret => exact ⟨_, h1.seq_stop (by simp), h2⟩
 ·rw [obW_iff] at h
  obtain ⟨v, hv, h⟩ := h
  split at h
  ·rename_i b'
   rcases ifp_iff.1 h with ⟨rfl, h⟩ | ⟨rfl, h⟩
   ·obtain ⟨o, h1, h2⟩ := hr.code _ _ _ _ _ _ _ _ h
    exact ⟨o, .cond hv (by rw [if_pos rfl]; exact h1), h2⟩
   ·obtain ⟨o, h1, h2⟩ := hr.code _ _ _ _ _ _ _ _ h
    exact ⟨o, .cond hv (by rw [if_neg (by simp)]; exact h1), h2⟩
  ·exact h.elim
 ·obtain ⟨⟨e, t1, d1, s1⟩, h1, h2⟩ := hr.code _ _ _ _ _ _ _ _ h
  cases e with
  | normal => exact ⟨_, h1.block, h2⟩
  | exit i =>
   rename_i id y
   refine ⟨_, h1.block, ?_⟩
   rcases ifp_iff.1 (show ifp (Nat.beq i id) (Q ⟨.normal, t1, d1, s1⟩) (Q ⟨.exit i, t1, d1, s1⟩) from h2) with ⟨hb, h2⟩ | ⟨hb, h2⟩
   ·show Q ⟨ifb (Nat.beq i id) .normal (.exit i), t1, d1, s1⟩
    rw [hb]; exact h2
   ·show Q ⟨ifb (Nat.beq i id) .normal (.exit i), t1, d1, s1⟩
    rw [hb]; exact h2
  | ret => exact ⟨_, h1.block, h2⟩
 ·rename_i y
  cases hl : K.lp fn (firstReg y) with
  | some C =>
   rw [hl] at h
   exact h.1 _ _ _ _ _ h.2
  | none =>
   rw [hl] at h
   obtain ⟨⟨e, t1, d1, s1⟩, h1, h2⟩ := hr.code _ _ _ _ _ _ _ _ h
   cases e with
   | normal =>
    obtain ⟨o, h3, h4⟩ := hr.code _ _ _ _ _ _ _ _ h2
    exact ⟨o, h1.loop h3, h4⟩
   | exit i => exact ⟨_, h1.loop_stop (by simp), h2⟩
   | ret => exact ⟨_, h1.loop_stop (by simp), h2⟩
 ·obtain ⟨o, h1, h2⟩ := hr.code _ _ _ _ _ _ _ _ h
  exact ⟨o, h1.scope, h2⟩
 ·rename_i id
  exact ⟨_, nil (e := .exit id) fun b tm df k cs w => ⟨k, rfl, Steps.refl _ _⟩, h⟩
 ·exact ⟨_, nil (e := .ret) fun b tm df k cs w => ⟨k, Steps.refl _ _⟩, h⟩
 ·rename_i id ops draw
  cases draw with
  | false =>
   obtain ⟨T', D', st', hQ, sem⟩ := opsW_sound (flAt_ok hr) (cd := ro.isNone) (nt := nt) (ops := ops) ops.toList 0 T D st h (fun j hj => by simp)
   refine ⟨⟨.normal, T', D', st'⟩, fun ρ w tm df b k cs hH hT hD hbf hro => ?_, hQ⟩
   obtain ⟨ρ1, w1, tm1, df1, g1, H1, T1, D1, A1⟩ := sem b (fun q => hro.isNone q) k cs (List.range ops.size) (by simp) ρ w tm df hH hT hD
   exact ⟨ρ1, w1, tm1, df1, g1, H1, T1, D1, Steps.head st_region A1⟩
  | true =>
   change drawW P (flAt K r fn id) nt ops.toList T D st (fun T D st => Q ⟨.normal, T, D, st⟩) at h
   unfold drawW at h
   rw [ifp_F] at h
   obtain ⟨hreg, h⟩ := h
   obtain ⟨R, hc, hk, q, hq, h6⟩ := drawGoW_sound (flAt_ok hr) _ _ _ _ _ _ h
   obtain ⟨hrd, hQ⟩ := readsOkW_sound _ _ _ h6
   have hrun : drawRunR P R nt ops.toList T D st = some ⟨q.2.tmps, D, q.2.st⟩ := by
    unfold drawRunR
    rw [hreg, ifb_true, ob_eq, hq, Option.bind_some, hrd, ifb_true]
   refine ⟨⟨.normal, q.2.tmps, D, q.2.st⟩, fun ρ w tm df b k cs hH hT hD hbf hro => ?_, hQ⟩
   exact draw_sound hm hc hk hrun hH hT hD (b := b) id k cs
 ·rename_i g ps asl body
  cases hl : K.lp fn (firstReg body) with
  | some C =>
   rw [hl] at h
   exact h.1 _ _ _ _ _ h.2
  | none =>
   rw [hl] at h
   obtain ⟨gv, hg, h⟩ := obW_iff.1 (show obW (opd T g) _ from h)
   obtain ⟨q, hq, h⟩ := obW_iff.1 h
   unfold rangeW at h
   split at h
   ·rename_i f first cap _
    obtain ⟨v, st', hS, h⟩ := hr.call _ _ _ _ h
    obtain ⟨p, hp, h⟩ := obW_iff.1 h
    rcases ifp_iff.1 h with ⟨_, h⟩ | ⟨hb, h⟩
    ·exact h.elim
    have r1 := rec1_ok (p := (v, st')) hS
    have hat := rec1_at f (first ++ [AV.yield q.st.next] ++ cap) (q.st.new (.loop { state := .ready, pending := none, fn, nt, tmps := T, params := ps.toList, assign := asl, body, defers := q.d })) (v, st')
    have run : ∀ o, rangeA (rec1 f (first ++ [AV.yield q.st.next] ++ cap) (q.st.new (.loop { state := .ready, pending := none, fn, nt, tmps := T, params := ps.toList, assign := asl, body, defers := q.d })) (v, st')) (.func f first cap) T q.defers q.st.next
      (q.st.new (.loop { state := .ready, pending := none, fn, nt, tmps := T, params := ps.toList, assign := asl, body, defers := q.d })) = some o → CodeS P ro fn nt (.rangeFunc g ps asl body) T D st o := by
     intro o ho
     refine code_sound hm r1.1 r1.2 ro fn nt _ T D st o ?_
     show codeStep P (rec1 f (first ++ [AV.yield q.st.next] ++ cap) (q.st.new (.loop { state := .ready, pending := none, fn, nt, tmps := T, params := ps.toList, assign := asl, body, defers := q.d })) (v, st')) ro fn nt (.rangeFunc g ps asl body) T D st = some o
     simp only [codeStep, ob_eq, hg, hq, Option.bind_some]
     exact ho
    have hnb : p.state = .ready ∨ p.state = .done ∨ p.state = .exhausted := by cases e : p.state <;> simp [e] at hb ⊢
    cases hpe : p.pending with
    | none =>
     rw [hpe] at h
     refine ⟨_, run _ ?_, h⟩
     simp only [rangeA, ob_eq]
     rw [hat]
     simp only [Option.bind_some, hp]
     rcases hnb with e | e | e <;> simp only [e, hpe]
    | some c =>
     rw [hpe] at h
     obtain ⟨e, he, h⟩ := obW_iff.1 (show obW (jumpA c) _ from h)
     refine ⟨_, run _ ?_, h⟩
     simp only [rangeA, ob_eq]
     rw [hat]
     simp only [Option.bind_some, hp]
     rcases hnb with e | e | e <;> simp only [e, hpe, om_eq, he, Option.map_some]
   ·exact h.elim
 ·exact h.elim
theorem collected_eq {r : Rec} : ∀ {D : List ADef} {st st' : St}, collectedOnly D st = some st' → defersA r D st = some st'
 | [], st, st', h => h
 | .call _ _ :: _, st, st', h => by cases h
 | .collected d :: D, st, st', h => by
  simp only [collectedOnly, ob_some] at h
  obtain ⟨o, h1, h2⟩ := h
  simp only [defersA, ob_eq, h1, Option.bind_some]
  split at h2
  ·exact collected_eq h2
  ·cases h2
open Classical in
theorem callW_sound {r : RecW} (hr : RecOkW P r) {f : FuncId} {args : List AV} {st : St} {Q : AV → St → Prop} (h : callW P r f args st Q) : ∃ v st', CallS P f args st v st' ∧ Q v st' := by
 unfold callW at h
 rw [obW_iff] at h
 obtain ⟨fn, hfn, h⟩ := h
 rcases ifp_iff.1 h with ⟨_, h⟩ | ⟨hname, h⟩
 ·exact h.elim
 rw [obW_iff] at h
 obtain ⟨c, hc, h⟩ := h
 rw [ifp_F] at h
 obtain ⟨hlen, h⟩ := h
 obtain ⟨⟨e, t1, d1, s1⟩, h1, h2⟩ := hr.code _ _ _ _ _ _ _ _ h
 have main : e ≠ .normal → e ≠ .ret → False := by
  intro n1 n2
  cases e with
  | normal => exact n1 rfl
  | exit i => exact False.elim h2
  | ret => exact n2 rfl
 have h3 : (∀ i, e ≠ .exit i) ∧ obW (collectedOnly d1 s1) fun st => obW (resultsA P t1 st fn.results.toList) fun vs => Q (oneOrTuple vs) st := by
  cases e with
  | normal => exact ⟨fun i => by simp, h2⟩
  | exit i => exact False.elim h2
  | ret => exact ⟨fun i => by simp, h2⟩
 obtain ⟨hne, h3⟩ := h3
 simp only [obW_iff] at h3
 obtain ⟨st2, h4, vs, h5, h6⟩ := h3
 let r0 : Rec := ⟨fun ro fn' nt c' T D s => if ro = none ∧ fn' = f ∧ nt = fn.ntmps ∧ c' = c ∧ T = Tr.ofList .leaf 0 args ∧ D = [] ∧ s = st then some ⟨e, t1, d1, s1⟩ else none, fun _ _ _ => none, fun _ _ _ => none⟩
 have hc0 : CodeOk P r0 := by
  intro ro fn' nt c' T D s o ho
  change (if ro = none ∧ fn' = f ∧ nt = fn.ntmps ∧ c' = c ∧ T = Tr.ofList .leaf 0 args ∧ D = [] ∧ s = st then some _ else none) = some o at ho
  by_cases q : ro = none ∧ fn' = f ∧ nt = fn.ntmps ∧ c' = c ∧ T = Tr.ofList .leaf 0 args ∧ D = [] ∧ s = st
  ·rw [if_pos q] at ho
   obtain ⟨rfl, rfl, rfl, rfl, rfl, rfl, rfl⟩ := q
   injection ho with ho; subst ho
   exact h1
  ·rw [if_neg q] at ho; cases ho
 have hd0 : CallOkD P r0.dcall := fun f args st v st' h => by cases h
 refine ⟨_, _, (call_sound hc0 hd0).normal f args st (oneOrTuple vs) st2 ?_, h6⟩
 unfold callStep
 simp only [ob_eq, hfn, Option.bind_some]
 rw [hname, ifb_false, hc, Option.bind_some, hlen, ifb_true]
 have : r0.code none f fn.ntmps c (Tr.ofList .leaf 0 args) [] st = some ⟨e, t1, d1, s1⟩ := by simp [r0]
 rw [this]
 simp only [Option.bind_some]
 cases e with
 | exit i => exact absurd rfl (hne i)
 | normal => simp only [collected_eq h4, Option.bind_some, h5, om_eq, Option.map_some]
 | ret => simp only [collected_eq h4, Option.bind_some, h5, om_eq, Option.map_some]
def KnownOk (P : Program) (K : Known) : Prop := ∀ f C args st Q, K.tab f = some C → C args st Q → ∃ v st', CallS P f args st v st' ∧ Q v st'
theorem runW_sound (hm : P.follows .mixedOrders = true) {K : Known} (hK : KnownOk P K) : ∀ n, RecOkW P (runW P K n)
 | 0 => ⟨fun _ _ _ _ _ _ _ _ h => False.elim h, fun _ _ _ _ h => False.elim h⟩
 | n + 1 => by
  have ih := runW_sound hm hK n
  refine ⟨fun ro fn nt c T D st Q h => codeW_sound hm ih h, fun f args st Q h => ?_⟩
  change Option.rec (motive := fun _ => Prop) (callW P (runW P K n) f args st Q) (fun C => C args st Q) (K.tab f) at h
  cases hf : K.tab f with
  | none => rw [hf] at h; exact callW_sound ih h
  | some C => rw [hf] at h; exact hK _ _ _ _ _ hf h
theorem CallS.of_W (hm : P.follows .mixedOrders = true) {K : Known} (hK : KnownOk P K) (n : Nat) {f : FuncId} {args : List AV} {st : St} {Q : AV → St → Prop} (h : callW P (runW P K n) f args st Q) : ∃ v st', CallS P f args st v st' ∧ Q v st' :=
 callW_sound (runW_sound hm hK n) h
end Go.Det
namespace Go.Det
open Go.RowKit Go.ChangeShapes Go.WideShapes
variable {P : Program}
inductive Sh where
 | int (k : IntKind) | bool | str
 | slice (s : Sh)
 | fnil
 | fcons (s r : Sh)
def Sh.V : Sh → Type
 | .int _ => Int
 | .bool => Bool
 | .str => ByteArray
 | .slice s => SliceV s.V
 | .fnil => Unit
 | .fcons s r => s.V × r.V
def Sh.size : Sh → Nat
 | .int _ | .bool | .str | .slice _ => 1
 | .fnil => 0
 | .fcons s r => s.size + r.size
def Sh.cells : (s : Sh) → s.V → List AV
 | .int k, x => [.int k x]
 | .bool, x => [.bool x]
 | .str, x => [.str x]
 | .slice s, x => [SliceV.av s.cells s.size x]
 | .fnil, _ => []
 | .fcons s r, x => s.cells x.1 ++ r.cells x.2
def Sh.ok : (s : Sh) → s.V → Prop
 | .int k, x => (Lit.int k x).wf = true
 | .bool, _ => True
 | .str, x => x.size ≤ maxLen
 | .slice s, x => SliceV.ok s.ok x
 | .fnil, _ => True
 | .fcons s r, x => s.ok x.1 ∧ r.ok x.2
def Sh.av : (s : Sh) → s.V → AV
 | .int k, x => .int k x
 | .bool, x => .bool x
 | .str, x => .str x
 | .slice s, x => SliceV.av s.cells s.size x
 | .fnil, _ => .agg []
 | .fcons s r, x => .agg (s.cells x.1 ++ r.cells x.2)
mutual
def fits (P : Program) : Sh → TypeId → Bool
 | .int k, t => and (match P.underlying t with | some (.int k') => eqKind k k' | _ => false) (Nat.beq (P.cellsOf t) 1)
 | .bool, t => and (match P.underlying t with | some .bool => true | _ => false) (Nat.beq (P.cellsOf t) 1)
 | .str, t => and (match P.underlying t with | some .string => true | _ => false) (Nat.beq (P.cellsOf t) 1)
 | .slice s, t => match P.underlying t with
  | some (.slice e) => and (Nat.beq (P.cellsOf t) 1) (and (Nat.beq (P.cellsOf e) s.size) (and (Nat.ble 1 s.size) (fits P s e)))
  | _ => false
 | .fnil, _ => false
 | .fcons s r, t => match P.underlying t with
  | some (.struct fs) => (match fs.toList with
   | [] => false
   | f :: l => and (Nat.beq f.offset 0) (and (Nat.beq (P.cellsOf f.type) s.size) (and (Nat.beq (P.cellsOf t) (Nat.add s.size r.size)) (and (fits P s f.type) (fitsF P r s.size l)))))
  | _ => false
def fitsF (P : Program) : Sh → Nat → List Field → Bool
 | .fnil, _, [] => true
 | .fcons s r, o, f :: l => and (Nat.beq f.offset o) (and (Nat.beq (P.cellsOf f.type) s.size) (and (fits P s f.type) (fitsF P r (Nat.add o s.size) l)))
 | _, _, _ => false
end
mutual
theorem fits_arg : ∀ {s : Sh} {t : TypeId}, fits P s t = true → ArgOf P t s.cells s.ok
 | .int k, t, h => by
  simp only [fits, Bool.and_eq_true] at h
  obtain ⟨h, hc⟩ := h
  split at h
  ·rename_i hu
   obtain rfl := eqKind_iff.1 h
   exact abs_int hu (of_beq hc)
  ·cases h
 | .bool, t, h => by
  simp only [fits, Bool.and_eq_true] at h
  obtain ⟨h, hc⟩ := h
  split at h
  ·rename_i hu; exact abs_bool hu (of_beq hc)
  ·cases h
 | .str, t, h => by
  simp only [fits, Bool.and_eq_true] at h
  obtain ⟨h, hc⟩ := h
  split at h
  ·rename_i hu; exact abs_string hu (of_beq hc)
  ·cases h
 | .slice s, t, h => by
  simp only [fits] at h
  split at h
  ·rename_i hu
   simp only [Bool.and_eq_true] at h
   obtain ⟨h1, h2, h3, h4⟩ := h
   exact abs_slice hu (of_beq h1) (of_beq h2) (of_ble h3) (fits_arg h4)
  ·cases h
 | .fnil, t, h => by simp [fits] at h
 | .fcons s r, t, h => by
  simp only [fits] at h
  split at h
  ·rename_i fs hu
   split at h
   ·cases h
   ·rename_i f l hl
    simp only [Bool.and_eq_true] at h
    obtain ⟨h1, h2, h3, h4, h5⟩ := h
    refine abs_struct hu ?_
    rw [hl]
    exact argFs_on (of_beq h3) (of_beq h1) (of_beq h2) (fits_arg h4) (fitsF_arg (o := 0 + s.size) (by rwa [Nat.zero_add]))
  ·cases h
theorem fitsF_arg : ∀ {r : Sh} {o : Nat} {l : List Field}, fitsF P r o l = true → ArgFs P l o r.size r.cells r.ok
 | .fnil, o, [], _ => argFs_nil o
 | .fcons s r, o, f :: l, h => by
  simp only [fitsF, Bool.and_eq_true] at h
  obtain ⟨h1, h2, h4, h5⟩ := h
  exact argFs_on rfl (of_beq h1) (of_beq h2) (fits_arg h4) (fitsF_arg h5)
 | .int _, _, _, h => by simp [fitsF] at h
 | .bool, _, _, h => by simp [fitsF] at h
 | .str, _, _, h => by simp [fitsF] at h
 | .slice _, _, _, h => by simp [fitsF] at h
 | .fnil, _, _ :: _, h => by simp [fitsF] at h
 | .fcons _ _, _, [], h => by simp [fitsF] at h
end
theorem fits_av {s : Sh} {t : TypeId} (h : fits P s t = true) {r : Reach} {w : World} {base : Nat} {v : Value} (hv : Value.okWide P w r base t v) {H : Type} {enc : TypeId × Value → H} {W : World} {d : DataW H} {ps : List MemPlace}
  (ht : DataW.Trod enc P W 0 (fun _ => true) true t v d ps) : ∃ a : s.V, s.ok a ∧ VR (frozenAll W) (s.av a) v := by
 have ha := fits_arg h
 obtain ⟨n, hn⟩ := ht
 obtain ⟨a, h1, h2⟩ := ha.abs enc W n _ _ hn
 refine ⟨a, h1, ?_⟩
 cases s with
 | int k =>
  simp only [fits, Bool.and_eq_true] at h
  obtain ⟨h, hc⟩ := h
  split at h
  ·rename_i hu; obtain ⟨z, rfl⟩ := okWide_int hu hv; exact arg_one h2 (fun cs => by simp)
  ·cases h
 | bool =>
  simp only [fits, Bool.and_eq_true] at h
  obtain ⟨h, hc⟩ := h
  split at h
  ·rename_i hu; obtain ⟨z, rfl⟩ := okWide_bool hu hv; exact arg_one h2 (fun cs => by simp)
  ·cases h
 | str =>
  simp only [fits, Bool.and_eq_true] at h
  obtain ⟨h, hc⟩ := h
  split at h
  ·rename_i hu; obtain ⟨z, rfl⟩ := okWide_string hu hv; exact arg_one h2 (fun cs => by simp)
  ·cases h
 | slice s =>
  simp only [fits] at h
  split at h
  ·rename_i hu; obtain ⟨x, y, z, rfl⟩ := okWide_slice hu hv; exact arg_one h2 (fun cs => by simp)
  ·cases h
 | fnil => simp [fits] at h
 | fcons s r =>
  simp only [fits] at h
  split at h
  ·rename_i hu; obtain ⟨cs, rfl, _⟩ := okWide_struct hu hv; exact .agg h2
  ·cases h
def yesQ (v : AV) : Prop := match v with | .bool true => True | _ => False
theorem yesQ_eq {v : AV} (h : yesQ v) : v = .bool true := by
 unfold yesQ at h
 split at h
 ·rfl
 ·exact h.elim
def stB (b : Bool) : St := { heap := .leaf, next := 0, vm := b }
theorem law_W (hm : P.follows .mixedOrders = true) {K : Known} (hK : KnownOk P K) {n f : Nat} {args : List AV} {b : Bool} (h : callW P (runW P K n) f args (stB b) fun v _ => yesQ v) {w : World} {args' : List Value} (hA : VRs (frozenAll w) args args') :
  Calls P f ⟨args'⟩ w fun e w' => e = .returned (.bool true) ∧ Below w.heap.size w w' := by
 obtain ⟨v, st', h1, h2⟩ := CallS.of_W hm hK n h
 obtain rfl := yesQ_eq h2
 exact law_calls h1 hA
def ShVs : List Sh → Type
 | [] => Unit
 | s :: l => s.V × ShVs l
def ShAvs : (l : List Sh) → ShVs l → List AV
 | [], _ => []
 | s :: l, x => s.av x.1 :: ShAvs l x.2
def ShOks : (l : List Sh) → ShVs l → Prop
 | [], _ => True
 | s :: l, x => s.ok x.1 ∧ ShOks l x.2
def fitsAll (P : Program) : List Sh → List TypeId → Bool
 | [], [] => true
 | s :: l, t :: ts => and (fits P s t) (and (P.readableRec t) (and (Nat.blt t P.types.size) (fitsAll P l ts)))
 | _, _ => false
theorem fitsAll_av : ∀ {l : List Sh} {ts : List TypeId}, fitsAll P l ts = true → ∀ {vs : List Value} {H : Type} {enc : TypeId × Value → H} {W : World} {ds : List (DataW H)} {p : List MemPlace} {r : Reach} {w : World} {base : Nat},
  (∀ (i : Nat) (t : TypeId) (v : Value), ts[i]? = some t → vs[i]? = some v → Value.okWide P w r base t v) → DataW.TrodAll enc P W 0 (fun _ => true) true ts vs ds p →
  (∃ a : ShVs l, ShOks l a ∧ VRs (frozenAll W) (ShAvs l a) vs) ∧ ∀ t ∈ ts, P.readableRec t = true ∧ t < P.types.size
 | [], [], _, vs, H, enc, W, ds, p, r, w, base, hv, h => by
  obtain ⟨rfl, rfl, rfl⟩ := trodAll_nil h
  exact ⟨⟨(), trivial, .nil⟩, by simp⟩
 | s :: l, t :: ts, hf, vs, H, enc, W, ds, p, r, w, base, hv, h => by
  simp only [fitsAll, Bool.and_eq_true] at hf
  obtain ⟨f1, f2, f3, f4⟩ := hf
  obtain ⟨v, vs1, d, ds1, a, b, rfl, rfl, rfl, h1, h2⟩ := trodAll_cons h
  obtain ⟨x, hx, hx'⟩ := fits_av f1 (hv 0 t v rfl rfl) h1
  obtain ⟨⟨y, hy, hy'⟩, ht⟩ := fitsAll_av f4 (fun i t v h h' => hv (i + 1) t v (by simpa using h) (by simpa using h')) h2
  refine ⟨⟨(x, y), ⟨hx, hy⟩, .cons hx' hy'⟩, fun t' ht' => ?_⟩
  rcases List.mem_cons.1 ht' with rfl | ht'
  ·exact ⟨f2, of_ble f3⟩
  ·exact ht t' ht'
 | [], _ :: _, h, _, _, _, _, _, _, _, _, _, _, _ => by simp [fitsAll] at h
 | _ :: _, [], h, _, _, _, _, _, _, _, _, _, _, _ => by simp [fitsAll] at h
end Go.Det
namespace Go.Det
variable {P : Program}
def Val (P : Program) (f : FuncId) (args : List AV) (v : AV) : Prop := ∀ st, CallS P f args st v st
abbrev FT := List (FuncId × (List AV → Option AV))
noncomputable def look : FT → Nat → Option (List AV → Option AV)
 | [], _ => none
 | (g, F) :: l, f => ifb (Nat.beq f g) (some F) (look l f)
def FtOk (P : Program) (ft : FT) : Prop := ∀ g F, (g, F) ∈ ft → ∀ args v, F args = some v → Val P g args v
theorem look_mem : ∀ {ft : FT} {f : Nat} {F : List AV → Option AV}, look ft f = some F → (f, F) ∈ ft
 | [], f, F, h => by cases h
 | (g, G) :: l, f, F, h => by
  simp only [look] at h
  cases hb : Nat.beq f g with
  | true =>
   rw [hb] at h
   injection h with h; subst h
   obtain rfl : f = g := of_beq hb
   simp
  | false => rw [hb] at h; exact List.mem_cons_of_mem _ (look_mem h)
noncomputable def knowV (ft : FT) : FuncId → Option CallC := fun f => om (fun F args st Q => obW (F args) fun v => Q v st) (look ft f)
noncomputable def KE (ft : FT) : Known := { tab := knowV ft, lp := fun _ _ => none, eqs := true }
theorem knowV_ok {ft : FT} {lp : FuncId → Nat → Option LoopC} {e : Bool} (h : FtOk P ft) : KnownOk P { tab := knowV ft, lp := lp, eqs := e } := by
 intro g C args st Q hC hr
 change om _ (look ft g) = some C at hC
 rw [om_eq] at hC
 cases hl : look ft g with
 | none => rw [hl] at hC; cases hC
 | some F =>
  rw [hl] at hC
  injection hC with hC; subst hC
  obtain ⟨v, h1, h2⟩ := obW_iff.1 hr
  exact ⟨v, st, h _ _ (look_mem hl) _ _ h1 st, h2⟩
theorem FtOk.nil : FtOk P [] := fun g F h => by cases h
theorem FtOk.cons {ft : FT} {g : FuncId} {F : List AV → Option AV} (h : ∀ args v, F args = some v → Val P g args v) (h' : FtOk P ft) : FtOk P ((g, F) :: ft) := by
 intro g' F' hm
 rcases List.mem_cons.1 hm with e | hm
 ·injection e with e1 e2; subst e1; subst e2; exact h
 ·exact h' _ _ hm
theorem FtOk.append {a b : FT} (h : FtOk P a) (h' : FtOk P b) : FtOk P (a ++ b) := fun g F hm => by
 rcases List.mem_append.1 hm with hm | hm
 ·exact h _ _ hm
 ·exact h' _ _ hm
theorem ifp_if {b : Bool} {x y : Prop} : ifp b x y = if b = true then x else y := by cases b <;> simp [ifp]
theorem ifp_le {a b : Int} {x y : Prop} : ifp (leInt a b) x y = if a ≤ b then x else y := by rw [ifp_if, leInt_eq]; by_cases h : a ≤ b <;> simp [h]
theorem ifp_nle {a b : Int} {x y : Prop} : ifp (!leInt a b) x y = if a ≤ b then y else x := by rw [ifp_if, leInt_eq]; by_cases h : a ≤ b <;> simp [h]
theorem ifp_eq {a b : Int} {x y : Prop} : ifp (eqInt a b) x y = if a = b then x else y := by rw [ifp_if, eqInt_eq]; by_cases h : a = b <;> simp [h]
theorem ifp_ne {a b : Int} {x y : Prop} : ifp (!eqInt a b) x y = if a = b then y else x := by rw [ifp_if, eqInt_eq]; by_cases h : a = b <;> simp [h]
theorem ifb_le {α : Type} {a b : Int} {x y : α} : ifb (leInt a b) x y = if a ≤ b then x else y := by rw [ifb_eq, leInt_eq]; by_cases h : a ≤ b <;> simp [h]
theorem wr64 {z : Int} (h1 : -9223372036854775808 ≤ z) (h2 : z < 9223372036854775808) : wrapF .i64 z = z := by
 rw [wrapF_eq]
 show (if (true && decide (z % 18446744073709551616 ≥ 9223372036854775808)) = true then z % 18446744073709551616 - 18446744073709551616 else z % 18446744073709551616) = z
 rw [Bool.true_and]
 by_cases h : z % 18446744073709551616 ≥ 9223372036854775808
 ·rw [if_pos (decide_eq_true h)]; omega
 ·rw [if_neg (by rw [decide_eq_false h]; simp)]; omega
theorem wadd {a b : Int} (h1 : -9223372036854775808 ≤ a + b) (h2 : a + b < 9223372036854775808) : wrapF .i64 (Int.add a b) = a + b := wr64 h1 h2
end Go.Det
namespace Go.Det
universe u
variable {P : Program}
mutual
def AV.ren (τ : Nat → Nat) : AV → AV
 | .ptr b o => .ptr (τ b) o
 | .slice b o n c x e => .slice (τ b) o n c x e
 | .map b => .map (τ b)
 | .yield b => .yield (τ b)
 | .func f a c => .func f (AV.rens τ a) (AV.rens τ c)
 | .agg l => .agg (AV.rens τ l)
 | .tuple l => .tuple (AV.rens τ l)
 | .vs l n c x w e => .vs (AV.rens τ l) n c x (w.map τ) e
 | .vptr l o => .vptr (AV.rens τ l) o
 | .iface t v => .iface t (AV.ren τ v)
 | .bool b => .bool b
 | .int k n => .int k n
 | .str s => .str s
 | .nilPtr => .nilPtr
 | .nilSlice => .nilSlice
 | .nilMap => .nilMap
 | .nilFunc => .nilFunc
 | .nilIface => .nilIface
 | .gptr a b => .gptr a b
def AV.rens (τ : Nat → Nat) : List AV → List AV
 | [] => []
 | v :: l => AV.ren τ v :: AV.rens τ l
end
mutual
def AV.under (n : Nat) : AV → Prop
 | .ptr b _ => b < n
 | .slice b _ _ _ _ _ => b < n
 | .map b => b < n
 | .yield b => b < n
 | .func _ a c => AV.unders n a ∧ AV.unders n c
 | .agg l => AV.unders n l
 | .tuple l => AV.unders n l
 | .vs l _ _ _ w _ => AV.unders n l ∧ ∀ b, w = some b → b < n
 | .vptr l _ => AV.unders n l
 | .iface _ v => AV.under n v
 | _ => True
def AV.unders (n : Nat) : List AV → Prop
 | [] => True
 | v :: l => AV.under n v ∧ AV.unders n l
end
theorem rens_length (τ : Nat → Nat) : ∀ l : List AV, (AV.rens τ l).length = l.length
 | [] => rfl
 | v :: l => by simp [AV.rens, rens_length τ l]
theorem ren_scalar (τ : Nat → Nat) (v : AV) : (AV.ren τ v).scalar = v.scalar := by cases v <;> rfl
theorem rens_scalar (τ : Nat → Nat) : ∀ l : List AV, allScalar (AV.rens τ l) = allScalar l
 | [] => rfl
 | v :: l => by simp only [AV.rens, allScalar, ren_scalar, rens_scalar τ l]
theorem rens_get (τ : Nat → Nat) : ∀ (l : List AV) (i : Nat), (AV.rens τ l)[i]? = (l[i]?).map (AV.ren τ)
 | [], i => by simp [AV.rens]
 | v :: l, 0 => by simp [AV.rens]
 | v :: l, i + 1 => by simp [AV.rens, rens_get τ l i]
theorem unders_get {n : Nat} : ∀ {l : List AV} {i : Nat} {v : AV}, AV.unders n l → l[i]? = some v → AV.under n v
 | v :: l, 0, u, h, e => by simp at e; subst e; exact h.1
 | v :: l, i + 1, u, h, e => unders_get (l := l) (i := i) h.2 (by simpa using e)
 | [], _, _, _, e => by simp at e
def Names.ren (ρ : Names) (τ : Nat → Nat) (n : Nat) : Names := ⟨fun b => if b < n then ρ (τ b) else none, ρ.mem⟩
theorem Names.ren_at {ρ : Names} {τ : Nat → Nat} {n b : Nat} (h : b < n) : ρ.ren τ n b = ρ (τ b) := if_pos h
theorem Names.ren_inv {ρ : Names} {τ : Nat → Nat} {n b : Nat} {L : Loc} (h : ρ.ren τ n b = some L) : b < n ∧ ρ (τ b) = some L := by
 simp only [Names.ren] at h
 by_cases hb : b < n
 ·rw [if_pos hb] at h; exact ⟨hb, h⟩
 ·rw [if_neg hb] at h; cases h
mutual
theorem VR.ren {ρ : Names} {τ : Nat → Nat} {n : Nat} : ∀ {v : AV} {x : Value}, VR ρ (AV.ren τ v) x → AV.under n v → VR (ρ.ren τ n) v x
 | .bool b, _, h, _ => by cases h; exact .bool b
 | .int _ _, _, h, _ => by cases h; exact .int _ _
 | .str _, _, h, _ => by cases h; exact .str _
 | .nilPtr, _, h, _ => by cases h; exact .nilPtr
 | .nilSlice, _, h, _ => by cases h; exact .nilSlice
 | .nilMap, _, h, _ => by cases h; exact .nilMap
 | .nilFunc, _, h, _ => by cases h; exact .nilFunc
 | .nilIface, _, h, _ => by cases h; exact .nilIface
 | .gptr _ _, _, h, _ => by cases h; exact .gptr
 | .ptr b o, _, h, u => by
  simp only [AV.ren] at h
  cases h with
  | ptr h => exact .ptr (by rw [Names.ren_at u]; exact h)
 | .slice b o len c e k, _, h, u => by
  simp only [AV.ren] at h
  cases h with
  | slice h h1 h2 h3 h4 => exact .slice (by rw [Names.ren_at u]; exact h) h1 h2 h3 h4
 | .map b, _, h, u => by
  simp only [AV.ren] at h
  cases h with
  | map h => exact .map (by rw [Names.ren_at u]; exact h)
 | .yield b, _, h, u => by
  simp only [AV.ren] at h
  cases h with
  | yield h => exact .yield (by rw [Names.ren_at u]; exact h)
 | .func f a c, _, h, u => by
  simp only [AV.ren] at h
  cases h with
  | func h h' => exact .func (VRs.ren h u.1) (VRs.ren h' u.2)
 | .agg l, _, h, u => by
  simp only [AV.ren] at h
  cases h with
  | agg h => exact .agg (VRs.ren h u)
 | .tuple l, _, h, u => by
  simp only [AV.ren] at h
  cases h with
  | tuple h => exact .tuple (VRs.ren h u)
 | .vs l k c x w e, _, h, u => by
  simp only [AV.ren] at h
  generalize hr : AV.rens τ l = rl at h
  generalize hw : w.map τ = rw at h
  cases h with
  | vs h hs hl h1 h2 h3 h4 h5 =>
   subst hr; subst hw
   refine .vs (VRs.ren h u.1) (by rw [rens_scalar] at hs; exact hs) (by rw [rens_length] at hl; exact hl) h1 h2 h3 h4 ?_
   intro b hb
   subst hb
   obtain ⟨a1, a2, L, a3, a4⟩ := h5 _ rfl
   exact ⟨a1, a2, L, by rw [Names.ren_at (u.2 b rfl)]; exact a3, a4⟩
  | vsNil =>
   have hl : l = [] := by cases l with | nil => rfl | cons a t => simp [AV.rens] at hr
   have hw' : w = none := by cases w with | none => rfl | some b => simp at hw
   subst hl; subst hw'
   exact .vsNil
 | .vptr l o, _, h, u => by
  simp only [AV.ren] at h
  cases h with
  | vptr h hs hm => exact .vptr (VRs.ren h u) (by rw [rens_scalar] at hs; exact hs) hm
 | .iface t v, _, h, u => by
  simp only [AV.ren] at h
  cases h with
  | iface h => exact .iface (VR.ren h u)
theorem VRs.ren {ρ : Names} {τ : Nat → Nat} {n : Nat} : ∀ {l : List AV} {x : List Value}, VRs ρ (AV.rens τ l) x → AV.unders n l → VRs (ρ.ren τ n) l x
 | [], _, h, _ => by cases h; exact .nil
 | v :: l, _, h, u => by
  simp only [AV.rens] at h
  cases h with
  | cons h t => exact .cons (VR.ren h u.1) (VRs.ren t u.2)
end
mutual
theorem VR.fwd {ρ ρ' : Names} {τ : Nat → Nat} (hl : ∀ b L, ρ b = some L → ρ' (τ b) = some L) (hm : ∀ a i v, ρ.mem a i = some v → ρ'.mem a i = some v) : ∀ {v : AV} {x : Value}, VR ρ v x → VR ρ' (AV.ren τ v) x
 | _, _, .bool b => .bool b
 | _, _, .int k n => .int k n
 | _, _, .str s => .str s
 | _, _, .ptr h => .ptr (hl _ _ h)
 | _, _, .nilPtr => .nilPtr
 | _, _, .slice h h1 h2 h3 h4 => .slice (hl _ _ h) h1 h2 h3 h4
 | _, _, .nilSlice => .nilSlice
 | _, _, .map h => .map (hl _ _ h)
 | _, _, .nilMap => .nilMap
 | _, _, .func h h' => .func (VRs.fwd hl hm h) (VRs.fwd hl hm h')
 | _, _, .yield h => .yield (hl _ _ h)
 | _, _, .nilFunc => .nilFunc
 | _, _, .nilIface => .nilIface
 | _, _, .agg h => .agg (VRs.fwd hl hm h)
 | _, _, .tuple h => .tuple (VRs.fwd hl hm h)
 | _, _, .vs h hs hn h1 h2 h3 h4 h5 => .vs (VRs.fwd hl hm h) (by rw [rens_scalar]; exact hs) (by rw [rens_length]; exact hn) h1 h2 h3 (h4.imp id fun h => ⟨h.1, fun i v hv => hm _ _ _ (h.2 i v hv)⟩)
   (fun b hb => by
    obtain ⟨b0, e0, rfl⟩ := Option.map_eq_some_iff.1 hb
    obtain ⟨a, m, L, p, q⟩ := h5 b0 e0
    exact ⟨a, fun i v hv => hm _ _ _ (m i v hv), L, hl _ _ p, q⟩)
 | _, _, .vsNil => .vsNil
 | _, _, .vptr h hs hmm => .vptr (VRs.fwd hl hm h) (by rw [rens_scalar]; exact hs) (fun i v hv => hm _ _ _ (hmm i v hv))
 | _, _, .gptr => .gptr
 | _, _, .iface h => .iface (VR.fwd hl hm h)
theorem VRs.fwd {ρ ρ' : Names} {τ : Nat → Nat} (hl : ∀ b L, ρ b = some L → ρ' (τ b) = some L) (hm : ∀ a i v, ρ.mem a i = some v → ρ'.mem a i = some v) : ∀ {l : List AV} {x : List Value}, VRs ρ l x → VRs ρ' (AV.rens τ l) x
 | _, _, .nil => .nil
 | _, _, .cons h t => .cons (VR.fwd hl hm h) (VRs.fwd hl hm t)
end
def Wk (v u : AV) : Prop := ∀ (ρ : Names) (x : Value), VR ρ v x → VR ρ u x
theorem Wk.refl (v : AV) : Wk v v := fun _ _ h => h
def WkL : List AV → List AV → Prop
 | [], [] => True
 | v :: l, u :: m => Wk v u ∧ WkL l m
 | _, _ => False
theorem WkL.refl : ∀ l : List AV, WkL l l
 | [] => trivial
 | v :: l => ⟨Wk.refl v, WkL.refl l⟩
theorem WkL.vrs {ρ : Names} : ∀ {l m : List AV} {x : List Value}, WkL l m → VRs ρ l x → VRs ρ m x
 | [], [], _, _, h => h
 | v :: l, u :: m, _, ⟨h1, h2⟩, .cons hv t => .cons (h1 _ _ hv) (h2.vrs t)
 | [], _ :: _, _, h, _ => h.elim
 | _ :: _, [], _, h, _ => h.elim
theorem WkL.length : ∀ {l m : List AV}, WkL l m → l.length = m.length
 | [], [], _ => rfl
 | v :: l, u :: m, h => by simp [WkL.length h.2]
 | [], _ :: _, h => h.elim
 | _ :: _, [], h => h.elim
theorem WkL.get : ∀ {l m : List AV} {i : Nat} {u : AV}, WkL l m → m[i]? = some u → ∃ v, l[i]? = some v ∧ Wk v u
 | [], [], _, _, _, h => by simp at h
 | v :: l, u :: m, 0, w, h, e => by simp at e; subst e; exact ⟨v, by simp, h.1⟩
 | v :: l, u :: m, i + 1, w, h, e => by
  obtain ⟨v', h1, h2⟩ := h.2.get (i := i) (by simpa using e)
  exact ⟨v', by simpa using h1, h2⟩
 | [], _ :: _, _, _, h, _ => h.elim
 | _ :: _, [], _, _, h, _ => h.elim
def WkO (o o' : Ob) : Prop := (∀ (ρ : Names) (L : Loc) (x : Option Obj), OR ρ L o x → OR ρ L o' x) ∧ (o = .spare → o' = .spare)
theorem WkO.refl (o : Ob) : WkO o o := ⟨fun _ _ _ h => h, id⟩
def Tr.map {α β : Type} (f : α → β) : Tr α → Tr β
 | .leaf => .leaf
 | .node l v r => .node (l.map f) (v.map f) (r.map f)
theorem Tr.get_map {α β : Type} (f : α → β) : ∀ (t : Tr α) (k : Nat), (t.map f).get k = (t.get k).map f
 | .leaf, k => rfl
 | .node l v r, k => by
  simp only [Tr.map, Tr.get_node, Tr.get_map f l, Tr.get_map f r]
  split
  ·rfl
  ·split <;> rfl
def AEntry.ren (τ : Nat → Nat) (e : AEntry) : AEntry := ⟨e.key.ren τ, e.val.ren τ, e.born⟩
def Ob.ren (τ : Nat → Nat) : Ob → Ob
 | .row cs e => .row (AV.rens τ cs) e
 | .map es c => .map (es.map (AEntry.ren τ)) c
 | .loop l => .loop { l with tmps := l.tmps.map (AV.ren τ), defers := τ l.defers }
 | .deferred b => .deferred b
 | .spare => .spare
 | .mit m => .mit (m.map τ)
def Ob.under (n : Nat) : Ob → Prop
 | .row cs _ => AV.unders n cs
 | .map es _ => ∀ e ∈ es, AV.under n e.key ∧ AV.under n e.val
 | .loop l => l.defers < n ∧ ∀ i v, l.tmps.get i = some v → AV.under n v
 | .mit m => ∀ b, m = some b → b < n
 | _ => True
theorem ERs.ren {ρ : Names} {τ : Nat → Nat} {n : Nat} : ∀ {l : List AEntry} {x : List MapEntry}, ERs ρ (l.map (AEntry.ren τ)) x → (∀ e ∈ l, AV.under n e.key ∧ AV.under n e.val) → ERs (ρ.ren τ n) l x
 | [], _, h, _ => by cases h; exact .nil
 | ⟨k, v, b⟩ :: l, _, h, u => by
  simp only [List.map_cons, AEntry.ren] at h
  cases h with
  | cons hk hv t => exact .cons (hk.ren (u ⟨k, v, b⟩ (by simp)).1) (hv.ren (u ⟨k, v, b⟩ (by simp)).2) (ERs.ren t fun e he => u e (by simp [he]))
theorem OR.ren {ρ : Names} {τ : Nat → Nat} {n : Nat} {L : Loc} {o : Ob} {x : Option Obj} (h : OR ρ L (o.ren τ) x) (u : o.under n) : OR (ρ.ren τ n) L o x := by
 cases o with
 | row cs e =>
  obtain ⟨arr, e', lo, hi, h1, h2, h3, h4, h5⟩ := h
  refine ⟨arr, e', lo, hi, h1, h2, by rw [rens_length] at h3; exact h3, h4, fun i v hv => ?_⟩
  obtain ⟨a, v', b, c⟩ := h5 i (v.ren τ) (by rw [rens_get, hv]; rfl)
  exact ⟨by rw [ren_scalar] at a; exact a, v', b, c.ren (unders_get u hv)⟩
 | map es c =>
  obtain ⟨es', h1, h2⟩ := h
  exact ⟨es', h1, h2.ren u⟩
 | loop l =>
  obtain ⟨tm, d, h1, h2, h3⟩ := h
  refine ⟨tm, d, h1, ⟨h2.1, fun t v hv => ?_⟩, ?_⟩
  ·obtain ⟨v', a, b⟩ := h2.2 t (v.ren τ) (by rw [Tr.get_map, hv]; rfl)
   exact ⟨v', a, b.ren (u.2 t v hv)⟩
  ·rw [Names.ren_at u.1]; exact h3
 | deferred b => exact h
 | spare => exact h
 | mit m =>
  obtain ⟨mm, s, seen, c, h0, h1, h2⟩ := h
  refine ⟨mm, s, seen, c, h0, h1, ?_⟩
  rcases h2 with ⟨h2, h3⟩ | ⟨b, K, h2, h3, h4⟩
  ·left; cases m <;> simp at h2; exact ⟨rfl, h3⟩
  ·right
   cases m with
   | none => simp at h2
   | some b0 =>
    simp at h2; subst h2
    exact ⟨b0, K, rfl, by rw [Names.ren_at (u b0 rfl)]; exact h3, h4⟩
theorem ERs.fwd {ρ ρ' : Names} {τ : Nat → Nat} (hl : ∀ b L, ρ b = some L → ρ' (τ b) = some L) (hm : ∀ a i v, ρ.mem a i = some v → ρ'.mem a i = some v) : ∀ {l : List AEntry} {x : List MapEntry}, ERs ρ l x → ERs ρ' (l.map (AEntry.ren τ)) x
 | _, _, .nil => .nil
 | _, _, .cons hk hv t => .cons (hk.fwd hl hm) (hv.fwd hl hm) (ERs.fwd hl hm t)
theorem OR.fwd {ρ ρ' : Names} {τ : Nat → Nat} (hl : ∀ b L, ρ b = Option.some L → ρ' (τ b) = Option.some L) (hm : ∀ a i v, ρ.mem a i = Option.some v → ρ'.mem a i = Option.some v) {L : Loc} {o : Ob} {x : Option Obj} (h : OR ρ L o x) : OR ρ' L (o.ren τ) x := by
 cases o with
 | row cs e =>
  obtain ⟨arr, e', lo, hi, h1, h2, h3, h4, h5⟩ := h
  refine ⟨arr, e', lo, hi, h1, h2, by rw [rens_length]; exact h3, h4, fun i v hv => ?_⟩
  rw [rens_get, Option.map_eq_some_iff] at hv
  obtain ⟨v0, e0, rfl⟩ := hv
  obtain ⟨a, v', b, c⟩ := h5 i v0 e0
  exact ⟨by rw [ren_scalar]; exact a, v', b, c.fwd hl hm⟩
 | map es c =>
  obtain ⟨es', h1, h2⟩ := h
  exact ⟨es', h1, h2.fwd hl hm⟩
 | loop l =>
  obtain ⟨tm, d, h1, h2, h3⟩ := h
  refine ⟨tm, d, h1, ⟨h2.1, fun t v hv => ?_⟩, hl _ _ h3⟩
  have hv' : (l.tmps.map (AV.ren τ)).get t = Option.some v := hv
  rw [Tr.get_map, Option.map_eq_some_iff] at hv'
  obtain ⟨v0, e0, rfl⟩ := hv'
  obtain ⟨v', a, b⟩ := h2.2 t v0 e0
  exact ⟨v', a, b.fwd hl hm⟩
 | deferred b => exact h
 | spare => exact h
 | mit m =>
  obtain ⟨mm, s, seen, c, h0, h1, h2⟩ := h
  refine ⟨mm, s, seen, c, h0, h1, ?_⟩
  rcases h2 with ⟨h2, h3⟩ | ⟨b, K, h2, h3, h4⟩
  ·subst h2; exact .inl ⟨rfl, h3⟩
  ·subst h2; exact .inr ⟨τ b, K, rfl, hl _ _ h3, h4⟩
theorem ren_spare {τ : Nat → Nat} {o : Ob} : o.ren τ = .spare ↔ o = .spare := by cases o <;> simp [Ob.ren]
structure Re (N : Nat) (τ : Nat → Nat) (T : Tr AV) (st : St) (Tc : Tr AV) (stc : St) : Prop where
 tmp : ∀ i v, Tc.get i = some v → (∃ u, T.get i = some u ∧ Wk u (v.ren τ)) ∧ v.under stc.next
 obj : ∀ b o, stc.heap.get b = some o → b < stc.next ∧ (∃ o', st.heap.get (τ b) = some o' ∧ WkO o' (o.ren τ)) ∧ o.under stc.next
 inj : ∀ b b', b < stc.next → b' < stc.next → τ b = τ b' → b = b'
 old : ∀ b, b < N → τ b = b
 fr : ∀ g l, stc.gl.get g = some l → AV.frees l = true
def GlobOk (ρ : Names) (gl : Tr (List AV)) : Prop := ∀ g l, gl.get g = some l → ∃ l' : List Value, VRs ρ l l' ∧ ∀ (i : Nat) (v : Value), l'[i]? = some v → ρ.mem g i = some v
theorem GlobOk.of {ρ : Names} {st : St} {w : World} {gl : Tr (List AV)} (hH : HR ρ st w) (e : ∀ g l, gl.get g = some l → st.gl.get g = some l) : GlobOk ρ gl := fun g l h => hH.glob g l (e g l h)
theorem GlobOk.mono {ρ ρ' : Names} {gl : Tr (List AV)} (h : GlobOk ρ gl) (hm : ∀ a i v, ρ.mem a i = some v → ρ'.mem a i = some v) (hf : ∀ g l, gl.get g = some l → AV.frees l = true) : GlobOk ρ' gl := fun g l hg =>
 let ⟨l', a, c⟩ := h g l hg; ⟨l', VRs.free hm a (hf g l hg), fun i v hv => hm _ _ _ (c i v hv)⟩
theorem Re.HR {N : Nat} {τ : Nat → Nat} {T : Tr AV} {st : St} {Tc : Tr AV} {stc : St} (h : Re N τ T st Tc stc) {ρ : Names} {w : World} (hg0 : GlobOk ρ stc.gl) (hH : HR ρ st w) : HR (ρ.ren τ stc.next) stc w := by
 refine ⟨fun b L hb => ?_, fun b o hb => ?_, fun b b' o o' L L' h1 h2 h3 h4 e => ?_, hH.mem, fun a i v hv b o L hb hL he => ?_, fun g l hg => ?_⟩
 ·obtain ⟨h1, h2⟩ := Names.ren_inv hb
  exact ⟨h1, (hH.lt _ _ h2).2⟩
 ·obtain ⟨h1, ⟨o', h2, hw⟩, h3⟩ := h.obj b o hb
  obtain ⟨L, hL, hO⟩ := hH.obj _ _ h2
  exact ⟨L, by rw [Names.ren_at h1]; exact hL, (hw.1 _ _ _ hO).ren h3⟩
 ·obtain ⟨a1, ⟨_, a2, _⟩, _⟩ := h.obj b o h1
  obtain ⟨c1, ⟨_, c2, _⟩, _⟩ := h.obj b' o' h2
  rw [Names.ren_at a1] at h3
  rw [Names.ren_at c1] at h4
  exact h.inj b b' a1 c1 (hH.inj _ _ _ _ _ _ a2 c2 h3 h4 e)
 ·obtain ⟨a1, ⟨o', a2, hw⟩, _⟩ := h.obj b o hb
  rw [Names.ren_at a1] at hL
  obtain ⟨k1, k2⟩ := hH.sep a i v hv _ _ L a2 hL he
  exact ⟨ren_spare.1 (hw.2 k1), k2⟩
 ·obtain ⟨l', a, c⟩ := hg0 g l hg
  exact ⟨l', VRs.free (ρ := ρ) (ρ' := ρ.ren τ stc.next) (fun _ _ _ h => h) a (h.fr g l hg), c⟩
theorem Re.TR {N : Nat} {τ : Nat → Nat} {T : Tr AV} {st : St} {Tc : Tr AV} {stc : St} (h : Re N τ T st Tc stc) {ρ : Names} {nt : Nat} {tm : Array Value} (hT : TR ρ nt T tm) : TR (ρ.ren τ stc.next) nt Tc tm :=
 ⟨hT.1, fun t v hv => let ⟨⟨u, a, aw⟩, b⟩ := h.tmp t v hv; let ⟨v', c, d⟩ := hT.2 t _ a; ⟨v', c, (aw _ _ d).ren b⟩⟩
structure GoesN (N : Nat) (ρ : Names) (st : St) (w : World) (ρ' : Names) (st' : St) (w' : World) : Prop where
 nm : ∀ b L, b < N → ρ' b = some L → ρ b = some L
 mem : ∀ a i v, ρ.mem a i = some v → ρ'.mem a i = some v
 size : w.heap.size ≤ w'.heap.size
 img : ∀ b o L, st'.heap.get b = some o → ρ' b = some L → L.blk < w.heap.size → ∃ b0 o0 L0, st.heap.get b0 = some o0 ∧ ρ b0 = some L0 ∧ L0.blk = L.blk
 same : ∀ x, x < w.heap.size → (∀ b o L, st.heap.get b = some o → ρ b = some L → L.blk ≠ x) → w'.heap[x]? = w.heap[x]?
 os : w'.os = w.os
 tape : w'.tape = w.tape
 output : w'.output = w.output
 drawn : w.drawn ≤ w'.drawn
 grew : ∀ a i v, ρ'.mem a i = some v → ρ.mem a i = some v ∨ w.heap.size ≤ a ∨ ∃ b o L, st.heap.get b = some o ∧ ρ b = some L ∧ L.blk = a
theorem GoesN.trans {N : Nat} {ρ ρ1 ρ2 : Names} {st st1 st2 : St} {w w1 w2 : World} (h : GoesN N ρ st w ρ1 st1 w1) (h' : GoesN N ρ1 st1 w1 ρ2 st2 w2) : GoesN N ρ st w ρ2 st2 w2 := by
 refine ⟨fun b L hb hL => h.nm b L hb (h'.nm b L hb hL), fun a i v hv => h'.mem _ _ _ (h.mem _ _ _ hv), Nat.le_trans h.size h'.size, ?_, ?_, h'.os.trans h.os, h'.tape.trans h.tape, h'.output.trans h.output, Nat.le_trans h.drawn h'.drawn, ?_⟩
 ·intro b o L hb hL hlt
  obtain ⟨b1, o1, L1, h1, h2, h3⟩ := h'.img b o L hb hL (Nat.lt_of_lt_of_le hlt h.size)
  obtain ⟨b0, o0, L0, k1, k2, k3⟩ := h.img b1 o1 L1 h1 h2 (h3 ▸ hlt)
  exact ⟨b0, o0, L0, k1, k2, k3.trans h3⟩
 ·intro x hx hn
  rw [h'.same x (Nat.lt_of_lt_of_le hx h.size) ?_, h.same x hx hn]
  intro b o L hb hL he
  obtain ⟨b0, o0, L0, k1, k2, k3⟩ := h.img b o L hb hL (he ▸ hx)
  exact hn b0 o0 L0 k1 k2 (k3.trans he)
 ·intro a i v hv
  rcases h'.grew a i v hv with h1 | h1 | ⟨b, o, L, h1, h2, h3⟩
  ·exact h.grew a i v h1
  ·exact .inr (.inl (Nat.le_trans h.size h1))
  ·rcases Nat.lt_or_ge a w.heap.size with hlt | hge
   ·obtain ⟨b0, o0, L0, k1, k2, k3⟩ := h.img b o L h1 h2 (h3 ▸ hlt)
    exact .inr (.inr ⟨b0, o0, L0, k1, k2, k3.trans h3⟩)
   ·exact .inr (.inl hge)
theorem Goes.toN {N : Nat} {ρ ρ' : Names} {st st' : St} {w w' : World} (h : Goes ρ st w ρ' st' w') (hN : N ≤ st.next) : GoesN N ρ st w ρ' st' w' :=
 ⟨fun b L hb hL => by
  rcases h.fresh b L hL with h1 | ⟨h1, _⟩
  ·exact h1
  ·omega, h.le.mem, h.size, h.img, h.same, h.os, h.tape, h.output, h.drawn, h.grew⟩
theorem Re.goes {N : Nat} {τ : Nat → Nat} {T : Tr AV} {st : St} {Tc : Tr AV} {stc : St} (h : Re N τ T st Tc stc) {ρ : Names} {w : World} : GoesN N ρ st w (ρ.ren τ stc.next) stc w := by
 refine ⟨fun b L hb hL => ?_, fun _ _ _ h => h, Nat.le_refl _, fun b o L hb hL _ => ?_, fun _ _ _ => rfl, rfl, rfl, rfl, Nat.le_refl _, fun a i v hv => .inl hv⟩
 ·have := (Names.ren_inv hL).2
  rwa [h.old b hb] at this
 ·obtain ⟨a1, ⟨_, a2, _⟩, _⟩ := h.obj b o hb
  rw [Names.ren_at a1] at hL
  exact ⟨τ b, _, L, a2, hL, rfl⟩
theorem RoR.toNone {ρ ρ' : Names} {b : Option Nat} (h : RoR ρ (Option.none) b) : RoR ρ' (Option.none) b := by cases h; exact .none
def CodeN (P : Program) (N : Nat) (ro : Option Nat) (fn : FuncId) (nt : Nat) (c : Code) (T : Tr AV) (st : St) (o : Out) : Prop :=
 ∀ ρ w tm b k cs, HR ρ st w → TR ρ nt T tm → b.fn = fn → RoR ρ ro b.roundOf →
  ∃ ρ' w' tm', GoesN N ρ st w ρ' o.st w' ∧ HR ρ' o.st w' ∧ TR ρ' nt o.tmps tm' ∧ Arr P (lone (on b tm [] (.code c :: k)) cs w) b k cs o.ex tm' [] w'
theorem CodeS.toN {N : Nat} {ro : Option Nat} {fn : FuncId} {nt : Nat} {c : Code} {T : Tr AV} {st : St} {o : Out} (h : CodeS P ro fn nt c T [] st o) (hd : o.defers = []) (hN : N ≤ st.next) : CodeN P N ro fn nt c T st o := by
 intro ρ w tm b k cs hH hT hb hro
 obtain ⟨ρ', w', tm', df', G, H, T', D, A⟩ := h ρ w tm [] b k cs hH hT .nil hb hro
 rw [hd] at D
 cases D
 exact ⟨ρ', w', tm', G.toN hN, H, T', A⟩
theorem CodeN.re {N : Nat} {ro : Option Nat} {fn : FuncId} {nt : Nat} {c : Code} {T : Tr AV} {st : St} {o : Out} (h : CodeN P N ro fn nt c T st o) {τ : Nat → Nat} {Tc : Tr AV} {stc : St} (hr : Re N τ o.tmps o.st Tc stc) (hg : ∀ g l, stc.gl.get g = some l → st.gl.get g = some l) :
  CodeN P N ro fn nt c T st ⟨o.ex, Tc, [], stc⟩ := by
 intro ρ w tm b k cs hH hT hb hro
 obtain ⟨ρ', w', tm', G, H, T', A⟩ := h ρ w tm b k cs hH hT hb hro
 exact ⟨_, w', tm', G.trans hr.goes, hr.HR ((GlobOk.of hH hg).mono G.mem hr.fr) H, hr.TR T', A⟩
theorem CodeN.loop {N : Nat} {ro : Option Nat} {fn : FuncId} {nt : Nat} {y : Code} {T : Tr AV} {st : St} {t1 : Tr AV} {s1 : St} {o : Out} (ha : CodeN P N ro fn nt y T st ⟨.normal, t1, [], s1⟩)
  (hb' : CodeN P N none fn nt (.loop y) t1 s1 o) (hr : ro = none) : CodeN P N ro fn nt (.loop y) T st o := by
 subst hr
 intro ρ w tm b k cs hH hT hbf hro
 obtain ⟨ρ1, w1, tm1, g1, H1, T1, A1⟩ := ha ρ w tm b (.inLoop y :: k) cs hH hT hbf hro
 obtain ⟨ρ2, w2, tm2, g2, H2, T2, A2⟩ := hb' ρ1 w1 tm1 b k cs H1 T1 hbf hro.toNone
 exact ⟨ρ2, w2, tm2, g1.trans g2, H2, T2, Arr.of_steps (.head st_loop (Steps.trans A1 (.one st_inLoop))) (Arr.cut st_loop A2)⟩
theorem CodeN.loop_stop {N : Nat} {ro : Option Nat} {fn : FuncId} {nt : Nat} {y : Code} {T : Tr AV} {st : St} {o : Out} (ha : CodeN P N ro fn nt y T st o) (he : o.ex ≠ .normal) : CodeN P N ro fn nt (.loop y) T st o := by
 intro ρ w tm b k cs hH hT hbf hro
 obtain ⟨ρ1, w1, tm1, g1, H1, T1, A1⟩ := ha ρ w tm b (.inLoop y :: k) cs hH hT hbf hro
 exact ⟨ρ1, w1, tm1, g1, H1, T1, Arr.of_steps (.one st_loop) (Arr.bind (k' := .inLoop y :: k) (fun _ => rfl) A1 he)⟩
theorem loop_rule {Z : Type u} {N : Nat} {fn : FuncId} {nt : Nat} {y : Code} (μ : Z → Nat) (Inv : Z → Prop) (S : Z → Tr AV × St) (R : Z → Out → Prop) (hN : ∀ z, Inv z → N ≤ (S z).2.next) (gl : Tr (List AV)) (hS : ∀ z, Inv z → (S z).2.gl = gl)
    (body : ∀ z, Inv z → ∃ o, CodeS P none fn nt y (S z).1 [] (S z).2 o ∧ o.defers = [] ∧
      ((o.ex = .normal ∧ ∃ z' τ, Inv z' ∧ μ z' < μ z ∧ Re N τ o.tmps o.st (S z').1 (S z').2 ∧ ∀ o', R z' o' → R z o') ∨
       (o.ex ≠ .normal ∧ ∃ Tf stf τ, Re N τ o.tmps o.st Tf stf ∧ N ≤ stf.next ∧ stf.gl = gl ∧ R z ⟨o.ex, Tf, [], stf⟩))) :
    ∀ n z, μ z < n → Inv z → ∃ o, CodeN P N none fn nt (.loop y) (S z).1 (S z).2 o ∧ o.defers = [] ∧ N ≤ o.st.next ∧ R z o
  | 0, z, h, _ => by omega
  | n + 1, z, h, hi => by
    obtain ⟨⟨ex, T1, D1, st1⟩, h1, h2, h3⟩ := body z hi
    have hd : D1 = [] := h2
    subst hd
    have h4 := h1.toN rfl (hN z hi)
    rcases h3 with ⟨he, z', τ, k1, k2, k3, k4⟩ | ⟨he, Tf, stf, τ, k1, k2, kg, k3⟩
    · have he' : ex = .normal := he
      subst he'
      obtain ⟨o, j1, j2, j3, j4⟩ := loop_rule μ Inv S R hN gl hS body n z' (by omega) k1
      exact ⟨o, CodeN.loop (h4.re k3 (by rw [hS z' k1, hS z hi]; exact fun _ _ h => h)) j1 rfl, j2, j3, k4 _ j4⟩
    · exact ⟨_, CodeN.loop_stop (h4.re k1 (by rw [kg, hS z hi]; exact fun _ _ h => h)) he, rfl, k2, k3⟩
mutual
theorem ren_id : ∀ v : AV, AV.ren id v = v
 | .ptr b o => rfl
 | .slice b o n c x e => rfl
 | .map b => rfl
 | .yield b => rfl
 | .func f a c => by simp only [AV.ren, rens_id]
 | .agg l => by simp only [AV.ren, rens_id]
 | .tuple l => by simp only [AV.ren, rens_id]
 | .vs l n c x w e => by simp only [AV.ren, rens_id]; cases w <;> rfl
 | .vptr l o => by simp only [AV.ren, rens_id]
 | .iface t v => by simp only [AV.ren, ren_id]
 | .bool b => rfl
 | .int k n => rfl
 | .str s => rfl
 | .nilPtr => rfl
 | .nilSlice => rfl
 | .nilMap => rfl
 | .nilFunc => rfl
 | .nilIface => rfl
 | .gptr a b => rfl
theorem rens_id : ∀ l : List AV, AV.rens id l = l
 | [] => rfl
 | v :: l => by simp only [AV.rens, ren_id, rens_id]
end
def noneO (o : Option Nat) : Prop := match o with | none => True | _ => False
theorem noneO_eq {o : Option Nat} (h : noneO o) : o = none := by cases o with | none => rfl | some x => exact h.elim
theorem Val.ofK (hm : P.follows .mixedOrders = true) {K : Known} (hK : KnownOk P K) {n : Nat} {f : FuncId} {args : List AV} {v : AV} {X : (AV → Prop) → Prop} (ha : AV.frees args = true) (hv : AV.free v = true) (hd : AV.drop v = v)
  (e : ∀ Q : AV → Prop, (callW P (runW P K n) f args (stE false) fun x _ => Q x) = X Q) (h : X fun x => x = v) : Val P f args v := by
 intro st
 have h' : callW P (runW P K n) f args (stE false) (fun x _ => x = v) := (e _) ▸ h
 obtain ⟨v1, st1, h1, h2⟩ := CallS.of_W hm hK n h'
 subst h2
 have := CallS.lift h1 ha (by rw [hd]; exact hv) st
 rwa [hd] at this
noncomputable def mkT {α : Type} : List (Nat × α) → Tr α
 | [] => .leaf
 | p :: l => (mkT l).set p.1 p.2
theorem mkT_get {α : Type} : ∀ {l : List (Nat × α)} {i : Nat} {v : α}, (mkT l).get i = some v → (i, v) ∈ l
 | [], i, v, h => by simp [mkT, Tr.get] at h
 | p :: l, i, v, h => by
  simp only [mkT, Tr.get_set] at h
  by_cases e : i = p.1
  ·rw [if_pos e] at h; injection h with h; subst h; subst e; simp
  ·rw [if_neg e] at h; exact List.mem_cons_of_mem _ (mkT_get h)
noncomputable def findLoop (id : Nat) : Code → Option Code
 | .seq a b => Option.rec (findLoop id b) (fun c => some c) (findLoop id a)
 | .cond _ a b => Option.rec (findLoop id b) (fun c => some c) (findLoop id a)
 | .block _ b => findLoop id b
 | .scope b => findLoop id b
 | .loop b => Bool.rec (findLoop id b) (some b) (Nat.beq (firstReg b) id)
 | .rangeFunc _ _ _ b => findLoop id b
 | _ => none
noncomputable def loopBody (P : Program) (fn : FuncId) (id : Nat) : Code := Option.rec .skip (fun f => Option.rec .skip (fun c => Option.rec .skip (fun b => b) (findLoop id c)) f.body) P.funcs[fn]?
end Go.Det
namespace Go.Det
variable {P : Program}
def shift (τ : Nat → Nat) (N M : Nat) (b : Nat) : Nat := if b < N then τ b else M + (b - N)
def Names.whole (ρ ρ1 : Names) (N M : Nat) : Names := ⟨fun b => if b < M then ρ b else ρ1 (N + (b - M)), ρ1.mem⟩
structure Part (N : Nat) (τ : Nat → Nat) (st stC : St) : Prop where
 obj : ∀ b o, stC.heap.get b = some o → b < stC.next ∧ (∃ o', st.heap.get (τ b) = some o' ∧ WkO o' (o.ren τ)) ∧ o.under stC.next
 inj : ∀ b b', b < stC.next → b' < stC.next → τ b = τ b' → b = b'
 gl : ∀ g l, stC.gl.get g = some l → st.gl.get g = some l ∧ AV.frees l = true
structure Whole (N : Nat) (τ : Nat → Nat) (st stC stC' st' : St) : Prop where
 next : st'.next = st.next + (stC'.next - N)
 le : N ≤ stC'.next
 gl : st'.gl = st.gl
 obj : ∀ b o, st'.heap.get b = some o → (∃ b0 o0, b = shift τ N st.next b0 ∧ stC'.heap.get b0 = some o0 ∧ WkO (o0.ren (shift τ N st.next)) o) ∨
  (st.heap.get b = some o ∧ ∀ b0 o0, stC.heap.get b0 = some o0 → τ b0 ≠ b)
theorem Part.HR {N : Nat} {τ : Nat → Nat} {st stC : St} (h : Part N τ st stC) {ρ : Names} {w : World} (hH : HR ρ st w) : HR (ρ.ren τ stC.next) stC w := by
 refine ⟨fun b L hb => ?_, fun b o hb => ?_, fun b b' o o' L L' h1 h2 h3 h4 e => ?_, hH.mem, fun a i v hv b o L hb hL he => ?_, fun g l hg => ?_⟩
 ·obtain ⟨h1, h2⟩ := Names.ren_inv hb
  exact ⟨h1, (hH.lt _ _ h2).2⟩
 ·obtain ⟨h1, ⟨o', h2, hw⟩, h3⟩ := h.obj b o hb
  obtain ⟨L, hL, hO⟩ := hH.obj _ _ h2
  exact ⟨L, by rw [Names.ren_at h1]; exact hL, (hw.1 _ _ _ hO).ren h3⟩
 ·obtain ⟨a1, ⟨_, a2, _⟩, _⟩ := h.obj b o h1
  obtain ⟨c1, ⟨_, c2, _⟩, _⟩ := h.obj b' o' h2
  rw [Names.ren_at a1] at h3
  rw [Names.ren_at c1] at h4
  exact h.inj b b' a1 c1 (hH.inj _ _ _ _ _ _ a2 c2 h3 h4 e)
 ·obtain ⟨a1, ⟨o', a2, hw⟩, _⟩ := h.obj b o hb
  rw [Names.ren_at a1] at hL
  obtain ⟨k1, k2⟩ := hH.sep a i v hv _ _ L a2 hL he
  exact ⟨ren_spare.1 (hw.2 k1), k2⟩
 ·obtain ⟨h1, hf⟩ := h.gl g l hg
  obtain ⟨l', a, c⟩ := hH.glob g l h1
  exact ⟨l', VRs.free (ρ := ρ) (ρ' := ρ.ren τ stC.next) (fun _ _ _ h => h) a hf, c⟩
theorem frame_core {N : Nat} {τ : Nat → Nat} {st stC stC' st' : St} {ρ ρ1 : Names} {w w1 : World} (hH : HR ρ st w) (hp : Part N τ st stC) (G : GoesN N (ρ.ren τ stC.next) stC w ρ1 stC' w1) (H1 : HR ρ1 stC' w1)
  (hw : Whole N τ st stC stC' st') : HR (ρ.whole ρ1 N st.next) st' w1 ∧ Goes ρ st w (ρ.whole ρ1 N st.next) st' w1 ∧ ∀ b L, ρ1 b = some L → (ρ.whole ρ1 N st.next) (shift τ N st.next b) = some L := by
 have fw : ∀ b L, ρ1 b = some L → (ρ.whole ρ1 N st.next) (shift τ N st.next b) = some L := by
  intro b L hb
  unfold shift
  by_cases c : b < N
  ·rw [if_pos c]
   obtain ⟨_, h2⟩ := Names.ren_inv (G.nm b L c hb)
   show (if τ b < st.next then ρ (τ b) else _) = _
   rw [if_pos (hH.lt _ _ h2).1]; exact h2
  ·rw [if_neg c]
   show (if st.next + (b - N) < st.next then _ else ρ1 (N + (st.next + (b - N) - st.next))) = _
   rw [if_neg (by omega), show N + (st.next + (b - N) - st.next) = b by omega]; exact hb
 have at2 : ∀ b L, b < st.next → (ρ.whole ρ1 N st.next) b = some L → ρ b = some L := fun b L hb hL => by
  have hL' : (if b < st.next then ρ b else _) = some L := hL
  rwa [if_pos hb] at hL'
 have le : ρ.le (ρ.whole ρ1 N st.next) := ⟨fun b L h => by show (if b < st.next then ρ b else _) = _; rw [if_pos (hH.lt _ _ h).1]; exact h, fun a i v h => G.mem a i v h⟩
 have inn : ∀ b o, st.heap.get b = some o → b < st.next := fun b o h => let ⟨L, hL, _⟩ := hH.obj b o h; (hH.lt b L hL).1
 have out : ∀ b o L, st.heap.get b = some o → (∀ b0 o0, stC.heap.get b0 = some o0 → τ b0 ≠ b) → ρ b = some L → ∀ b1 o1 L1, stC.heap.get b1 = some o1 → (ρ.ren τ stC.next) b1 = some L1 → L1.blk ≠ L.blk := by
  intro b o L hb hn hL b1 o1 L1 h1 hL1 he
  obtain ⟨_, h2⟩ := Names.ren_inv hL1
  obtain ⟨_, ⟨o', h3, _⟩, _⟩ := hp.obj b1 o1 h1
  exact hn b1 o1 h1 (hH.inj _ _ _ _ _ _ h3 hb h2 hL he)
 have at1 : ∀ b0 o0 L, stC'.heap.get b0 = some o0 → (ρ.whole ρ1 N st.next) (shift τ N st.next b0) = some L → ρ1 b0 = some L := by
  intro b0 o0 L h hL
  obtain ⟨L', h1, _⟩ := H1.obj b0 o0 h
  have := fw _ _ h1
  rw [this] at hL; injection hL with hL; subst hL; exact h1
 have cross : ∀ b0 o0 L, stC'.heap.get b0 = some o0 → ρ1 b0 = some L → ∀ b o K, st.heap.get b = some o → (∀ b0 o0, stC.heap.get b0 = some o0 → τ b0 ≠ b) → ρ b = some K → L.blk ≠ K.blk := by
  intro b0 o0 L h0 hL b o K hb hn hK he
  obtain ⟨b1, o1, L1, q1, q2, q3⟩ := G.img b0 o0 L h0 hL (by rw [he]; exact (hH.lt _ _ hK).2)
  exact out b o K hb hn hK b1 o1 L1 q1 q2 (q3.trans he)
 refine ⟨⟨?_, ?_, ?_, H1.mem, ?_, ?_⟩, ⟨le, by rw [hw.next]; omega, ?_, G.size, ?_, ?_, G.os, G.tape, G.output, G.drawn, ?_⟩, fw⟩
 ·intro b L hL
  by_cases c : b < st.next
  ·have h := hH.lt _ _ (at2 b L c hL)
   exact ⟨by rw [hw.next]; omega, Nat.lt_of_lt_of_le h.2 G.size⟩
  ·have hL' : (if b < st.next then ρ b else ρ1 (N + (b - st.next))) = some L := hL
   rw [if_neg c] at hL'
   have h := H1.lt _ _ hL'
   exact ⟨by rw [hw.next]; omega, h.2⟩
 ·intro b o hb
  rcases hw.obj b o hb with ⟨b0, o0, rfl, h0, hk⟩ | ⟨h0, hn⟩
  ·obtain ⟨L, hL, hO⟩ := H1.obj _ _ h0
   exact ⟨L, fw _ _ hL, hk.1 _ _ _ (hO.fwd fw (fun _ _ _ h => h))⟩
  ·obtain ⟨L, hL, hO⟩ := hH.obj _ _ h0
   exact ⟨L, le.loc _ _ hL, by rw [G.same _ (hH.lt _ _ hL).2 (out b o L h0 hn hL)]; exact hO.mono le⟩
 ·intro b b' o o' L L' hb hb' hL hL' he
  rcases hw.obj b o hb with ⟨b0, o0, rfl, h0, _⟩ | ⟨h0, hn⟩ <;> rcases hw.obj b' o' hb' with ⟨b0', o0', rfl, h0', _⟩ | ⟨h0', hn'⟩
  ·rw [H1.inj _ _ _ _ _ _ h0 h0' (at1 _ _ _ h0 hL) (at1 _ _ _ h0' hL') he]
  ·exact absurd he (cross b0 o0 L h0 (at1 _ _ _ h0 hL) b' o' L' h0' hn' (at2 _ _ (inn _ _ h0') hL'))
  ·exact absurd he.symm (cross b0' o0' L' h0' (at1 _ _ _ h0' hL') b o L h0 hn (at2 _ _ (inn _ _ h0) hL))
  ·exact hH.inj _ _ _ _ _ _ h0 h0' (at2 _ _ (inn _ _ h0) hL) (at2 _ _ (inn _ _ h0') hL') he
 ·intro a i v hv b o L hb hL he
  rcases hw.obj b o hb with ⟨b0, o0, rfl, h0, hk⟩ | ⟨h0, hn⟩
  ·obtain ⟨k1, k2⟩ := H1.sep a i v hv _ _ L h0 (at1 _ _ _ h0 hL) he
   exact ⟨hk.2 (ren_spare.2 k1), k2⟩
  ·have hL' := at2 _ _ (inn _ _ h0) hL
   rcases G.grew a i v hv with hv' | hge | ⟨b1, o1, L1, h1, hL1, he1⟩
   ·exact hH.sep a i v hv' b o _ h0 hL' he
   ·have := (hH.lt _ _ hL').2; omega
   ·exact absurd (he1.trans he.symm) (out b o L h0 hn hL' b1 o1 L1 h1 hL1)
 ·intro g l hg
  rw [hw.gl] at hg
  obtain ⟨l', a, c⟩ := hH.glob g l hg
  exact ⟨l', a.mono le, fun i v hv => le.mem _ _ _ (c i v hv)⟩
 ·intro b L hL
  by_cases c : b < st.next
  ·exact .inl (at2 b L c hL)
  ·exact .inr ⟨by omega, fun k hk => c (hH.lt _ _ hk).1⟩
 ·intro b o L hb hL hlt
  rcases hw.obj b o hb with ⟨b0, o0, rfl, h0, _⟩ | ⟨h0, hn⟩
  ·obtain ⟨b1, o1, L1, q1, q2, q3⟩ := G.img b0 o0 L h0 (at1 _ _ _ h0 hL) hlt
   obtain ⟨_, ⟨o', h3, _⟩, _⟩ := hp.obj b1 o1 q1
   exact ⟨τ b1, o', L1, h3, (Names.ren_inv q2).2, q3⟩
  ·exact ⟨b, o, L, h0, at2 _ _ (inn _ _ h0) hL, rfl⟩
 ·intro x hx hno
  exact G.same x hx fun b o L hb hL => by
   obtain ⟨_, ⟨o', h3, _⟩, _⟩ := hp.obj b o hb
   exact hno (τ b) o' L h3 (Names.ren_inv hL).2
 ·intro a i v hv
  rcases G.grew a i v hv with h | h | ⟨b, o, L, h1, h2, h3⟩
  ·exact .inl h
  ·exact .inr (.inl h)
  ·obtain ⟨_, ⟨o', h4, _⟩, _⟩ := hp.obj b o h1
   exact .inr (.inr ⟨τ b, o', L, h4, (Names.ren_inv h2).2, h3⟩)
def CallN (P : Program) (N : Nat) (f : FuncId) (args : List AV) (st : St) (v : AV) (st' : St) : Prop :=
 (∀ (X : Array Value) (w : World), (callFunc f X).run P w = .ok (.enter f X) w) ∧
 ∀ ρ w args' cs, HR ρ st w → VRs ρ args args' → ∃ ρ' w' v' fr', GoesN N ρ st w ρ' st' w' ∧ HR ρ' st' w' ∧ VR ρ' v v' ∧ Steps P (lone (Frame.enter P f ⟨args'⟩ .normal) cs w) (lone fr' cs w') ∧ Leaves P f .normal fr' v' w'
theorem CallS.toN {f : FuncId} {args : List AV} {st st' : St} {v : AV} (h : CallS P f args st v st') {N : Nat} (hN : N ≤ st.next) : CallN P N f args st v st' :=
 ⟨h.1, fun ρ w args' cs hH hA => let ⟨ρ', w', v', fr', G, H, V, s, l⟩ := h.2 ρ w args' cs hH hA; ⟨ρ', w', v', fr', G.toN hN, H, V, s, l⟩⟩
theorem CallN.re {N : Nat} {f : FuncId} {args : List AV} {st st' stc : St} {v vc : AV} (h : CallN P N f args st v st') {τ : Nat → Nat} (hr : Re N τ (mkT [(0, v)]) st' (mkT [(0, vc)]) stc) (hg : ∀ g l, stc.gl.get g = some l → st.gl.get g = some l) : CallN P N f args st vc stc := by
 refine ⟨h.1, fun ρ w args' cs hH hA => ?_⟩
 obtain ⟨ρ', w', v', fr', G, H, V, s, l⟩ := h.2 ρ w args' cs hH hA
 obtain ⟨⟨u, h1, h2⟩, h3⟩ := hr.tmp 0 vc (by simp [mkT, Tr.get_set])
 obtain rfl : u = v := by simp [mkT, Tr.get_set] at h1; exact h1.symm
 exact ⟨_, w', v', fr', G.trans hr.goes, hr.HR ((GlobOk.of hH hg).mono G.mem hr.fr) H, (h2 _ _ V).ren h3, s, l⟩
theorem CallN.frame {N : Nat} {τ : Nat → Nat} {f : FuncId} {argsC args : List AV} {st stC stC' st' : St} {vC v : AV} (h : CallN P N f argsC stC vC stC') (hp : Part N τ st stC) (hw : Whole N τ st stC stC' st')
  (ha : WkL args (AV.rens τ argsC)) (hu : AV.unders stC.next argsC) (hv : Wk (vC.ren (shift τ N st.next)) v) : CallS P f args st v st' := by
 refine ⟨h.1, fun ρ w args' cs hH hA => ?_⟩
 obtain ⟨ρ1, w1, v', fr', G, H1, V, s, l⟩ := h.2 _ w args' cs (hp.HR hH) (VRs.ren (ha.vrs hA) hu)
 obtain ⟨H2, G2, fw⟩ := frame_core hH hp G H1 hw
 exact ⟨_, w1, v', fr', G2, H2, hv _ _ (V.fwd fw (fun _ _ _ h => h)), s, l⟩
theorem CodeN.frame {N : Nat} {τ : Nat → Nat} {fn : FuncId} {nt : Nat} {c : Code} {Tc T T' : Tr AV} {st stC st' : St} {o : Out} (h : CodeN P N none fn nt c Tc stC o) (hd : o.defers = []) (hp : Part N τ st stC)
  (hT : ∀ i v, Tc.get i = some v → (∃ u, T.get i = some u ∧ Wk u (v.ren τ)) ∧ v.under stC.next) (hw : Whole N τ st stC o.st st')
  (hT' : ∀ i v, T'.get i = some v → ∃ u, o.tmps.get i = some u ∧ Wk (u.ren (shift τ N st.next)) v) : CodeS P none fn nt c T [] st ⟨o.ex, T', [], st'⟩ := by
 intro ρ w tm df b k cs hH hTR hD hb hro
 cases hD
 have hTc : TR (ρ.ren τ stC.next) nt Tc tm := ⟨hTR.1, fun t v hv => let ⟨⟨u, a, aw⟩, b⟩ := hT t v hv; let ⟨v', c, d⟩ := hTR.2 t _ a; ⟨v', c, (aw _ _ d).ren b⟩⟩
 obtain ⟨ρ1, w1, tm1, G, H1, T1, A⟩ := h _ w tm b k cs (hp.HR hH) hTc hb hro.toNone
 obtain ⟨H2, G2, fw⟩ := frame_core hH hp G H1 hw
 refine ⟨_, w1, tm1, [], G2, H2, ⟨T1.1, fun t v hv => ?_⟩, .nil, A⟩
 obtain ⟨u, h1, h2⟩ := hT' t v hv
 obtain ⟨v', h3, h4⟩ := T1.2 t u h1
 exact ⟨v', h3, h2 _ _ (h4.fwd fw (fun _ _ _ h => h))⟩
noncomputable def delL (st : St) : List Nat → St
 | [] => st
 | b :: l => delL (st.del b) l
noncomputable def putL (st : St) : List Nat → List Ob → St
 | b :: bs, o :: os => putL (st.put b o) bs os
 | _, _ => st
noncomputable def newL (st : St) : List Ob → St
 | [] => st
 | o :: l => newL (st.new o) l
theorem delL_get : ∀ (ds : List Nat) (st : St) (b : Nat), (delL st ds).heap.get b = if b ∈ ds then none else st.heap.get b
 | [], st, b => by simp [delL]
 | d :: ds, st, b => by
  rw [delL, delL_get ds]
  have : (st.del d).heap.get b = if b = d then none else st.heap.get b := Tr.get_del ..
  rw [this]
  by_cases h : b ∈ ds
  ·simp [h]
  ·by_cases h2 : b = d <;> simp [h, h2]
theorem delL_next : ∀ (ds : List Nat) (st : St), (delL st ds).next = st.next ∧ (delL st ds).gl = st.gl
 | [], st => ⟨rfl, rfl⟩
 | d :: ds, st => by rw [delL]; exact delL_next ds (st.del d)
theorem putL_get : ∀ (bs : List Nat) (os : List Ob) (st : St) (b : Nat), bs.Nodup → bs.length = os.length → (putL st bs os).heap.get b = match bs.idxOf? b with | some i => os[i]? | none => st.heap.get b
 | [], [], st, b, _, _ => by simp [putL]
 | [], _ :: _, _, _, _, h => by simp at h
 | _ :: _, [], _, _, _, h => by simp at h
 | c :: bs, o :: os, st, b, hn, hl => by
  obtain ⟨h1, h2⟩ := List.nodup_cons.1 hn
  rw [putL, putL_get bs os _ b h2 (by simpa using hl)]
  have hg : (st.put c o).heap.get b = if b = c then some o else st.heap.get b := Tr.get_set ..
  rw [List.idxOf?_cons]
  by_cases e : c = b
  ·subst e
   have : bs.idxOf? c = none := by rw [List.idxOf?_eq_none_iff]; exact h1
   rw [this, hg]
   simp
  ·rw [if_neg (by simpa using e)]
   cases hx : bs.idxOf? b with
   | none => rw [hg]; simp [Ne.symm e]
   | some i => simp
theorem putL_next : ∀ (bs : List Nat) (os : List Ob) (st : St), (putL st bs os).next = st.next ∧ (putL st bs os).gl = st.gl
 | [], _, st => ⟨rfl, rfl⟩
 | _ :: _, [], st => ⟨rfl, rfl⟩
 | c :: bs, o :: os, st => by rw [putL]; exact putL_next bs os (st.put c o)
theorem newL_next : ∀ (ns : List Ob) (st : St), (newL st ns).next = st.next + ns.length ∧ (newL st ns).gl = st.gl
 | [], st => ⟨rfl, rfl⟩
 | o :: ns, st => by
  rw [newL]
  obtain ⟨h1, h2⟩ := newL_next ns (st.new o)
  exact ⟨by rw [h1]; show st.next + 1 + ns.length = _; simp; omega, h2⟩
theorem newL_get : ∀ (ns : List Ob) (st : St) (b : Nat) (o : Ob), (newL st ns).heap.get b = some o → (∃ j, b = st.next + j ∧ ns[j]? = some o) ∨ st.heap.get b = some o
 | [], st, b, o, h => .inr h
 | x :: ns, st, b, o, h => by
  rw [newL] at h
  rcases newL_get ns (st.new x) b o h with ⟨j, h1, h2⟩ | h
  ·exact .inl ⟨j + 1, by rw [h1]; show st.next + 1 + j = _; omega, by simpa using h2⟩
  ·have hg : (st.heap.set st.next x).get b = some o := h
   rw [Tr.get_set] at hg
   by_cases e : b = st.next
   ·rw [if_pos e] at hg
    exact .inl ⟨0, by omega, by simpa using hg⟩
   ·rw [if_neg e] at hg; exact .inr hg
noncomputable def heapL (k : Nat) : List Ob → List (Nat × Ob)
 | [] => []
 | o :: l => (k, o) :: heapL (k + 1) l
theorem heapL_mem : ∀ {l : List Ob} {k b : Nat} {o : Ob}, (b, o) ∈ heapL k l → k ≤ b ∧ l[b - k]? = some o
 | [], k, b, o, h => by simp [heapL] at h
 | x :: l, k, b, o, h => by
  rcases List.mem_cons.1 h with h | h
  ·injection h with h1 h2; subst h1; subst h2; simp
  ·obtain ⟨h1, h2⟩ := heapL_mem h
   refine ⟨by omega, ?_⟩
   rw [show b - k = (b - (k + 1)) + 1 by omega]; simpa using h2
theorem heapL_get : ∀ {l : List Ob} {k b : Nat} {o : Ob}, (mkT (heapL k l)).get b = some o → k ≤ b ∧ l[b - k]? = some o := fun h => heapL_mem (mkT_get h)
theorem heapL_at : ∀ {l : List Ob} {k i : Nat} {o : Ob}, l[i]? = some o → (mkT (heapL k l)).get (k + i) = some o
 | [], k, i, o, h => by simp at h
 | x :: l, k, 0, o, h => by
  simp only [heapL, mkT, Nat.add_zero]
  rw [Tr.get_set, if_pos rfl]; simpa using h
 | x :: l, k, i + 1, o, h => by
  simp only [heapL, mkT]
  rw [Tr.get_set, if_neg (by omega), show k + (i + 1) = (k + 1) + i by omega]
  exact heapL_at (by simpa using h)
noncomputable def stL (vm : Bool) (l : List Ob) (gl : Tr (List AV) := .leaf) (rw : TypeId → Bool := fun _ => false) : St := { heap := mkT (heapL 0 l), next := l.length, vm := vm, gl := gl, rw := rw }
theorem glLeaf {X : Nat → List AV → Prop} : ∀ g l, (Tr.leaf : Tr (List AV)).get g = some l → X g l := fun g l h => by simp [Tr.get] at h
def tauL (l : List Nat) (b : Nat) : Nat := l.getD b 0
theorem tauL_at {l : List Nat} {b x : Nat} (h : l[b]? = some x) : tauL l b = x := by simp [tauL, h]
theorem Part.of {st : St} {vm : Bool} {N : Nat} {l : List Nat} {os : List Ob} {gl : Tr (List AV)} {rw' : TypeId → Bool} (hgl : ∀ g l, gl.get g = some l → st.gl.get g = some l ∧ AV.frees l = true) (hl : l.length = os.length) (hn : l.Nodup) (hg : ∀ (i : Nat) (b : Nat) (o : Ob), l[i]? = some b → os[i]? = some o → (∃ o', st.heap.get b = some o' ∧ WkO o' (o.ren (tauL l))) ∧ o.under os.length) :
  Part N (tauL l) st (stL vm os gl rw') := by
 refine ⟨fun b o hb => ?_, fun b b' h h' e => ?_, hgl⟩
 ·obtain ⟨_, h2⟩ := heapL_get hb
  rw [Nat.sub_zero] at h2
  have hlt : b < os.length := by
   rcases Nat.lt_or_ge b os.length with q | q
   ·exact q
   ·rw [List.getElem?_eq_none q] at h2; cases h2
  have hx : l[b]? = some l[b] := List.getElem?_eq_getElem (by omega)
  obtain ⟨h3, h4⟩ := hg b _ o hx h2
  exact ⟨hlt, by rw [tauL_at hx]; exact h3, h4⟩
 ·have h1 : b < l.length := by rw [hl]; exact h
  have h2 : b' < l.length := by rw [hl]; exact h'
  rw [tauL_at (List.getElem?_eq_getElem h1), tauL_at (List.getElem?_eq_getElem h2)] at e
  exact (List.getElem_inj hn).1 e
theorem Whole.of {st : St} {vm vm' : Bool} {gl gl' : Tr (List AV)} {rw' rw2 : TypeId → Bool} {bs ds : List Nat} {os ps ns ps' ns' : List Ob} (hb : bs.length = ps.length) (hbd : (bs ++ ds).Nodup) (hos : os.length = bs.length + ds.length)
  (hp : ∀ (i : Nat) (o o' : Ob), ps[i]? = some o → ps'[i]? = some o' → WkO (o.ren (shift (tauL (bs ++ ds)) bs.length st.next)) o') (hpl : ps.length = ps'.length)
  (hn : ∀ (i : Nat) (o o' : Ob), ns[i]? = some o → ns'[i]? = some o' → WkO (o.ren (shift (tauL (bs ++ ds)) bs.length st.next)) o') (hnl : ns.length = ns'.length) :
  Whole bs.length (tauL (bs ++ ds)) st (stL vm os gl rw') (stL vm' (ps ++ ns) gl' rw2) (newL (putL (delL st ds) bs ps') ns') := by
 have hbn : bs.Nodup := (List.nodup_append.1 hbd).1
 refine ⟨?_, by show bs.length ≤ (ps ++ ns).length; simp; omega, ?_, fun b o h => ?_⟩
 ·rw [(newL_next _ _).1, (putL_next _ _ _).1, (delL_next _ _).1]
  show _ = st.next + ((ps ++ ns).length - bs.length)
  simp; omega
 ·rw [(newL_next _ _).2, (putL_next _ _ _).2, (delL_next _ _).2]
 ·rcases newL_get _ _ _ _ h with ⟨j, h1, h2⟩ | h
  ·left
   rw [(putL_next _ _ _).1, (delL_next _ _).1] at h1
   have hj : j < ns.length := by
    rcases Nat.lt_or_ge j ns.length with q | q
    ·exact q
    ·rw [List.getElem?_eq_none (by omega)] at h2; cases h2
   refine ⟨bs.length + j, ns[j], ?_, ?_, hn j _ _ (List.getElem?_eq_getElem hj) h2⟩
   ·rw [shift, if_neg (by omega), h1]; omega
   ·have : (ps ++ ns)[bs.length + j]? = some ns[j] := by rw [List.getElem?_append_right (by omega), show bs.length + j - ps.length = j by omega]; exact List.getElem?_eq_getElem hj
    have := heapL_at (k := 0) this
    rwa [Nat.zero_add] at this
  ·rw [putL_get _ _ _ _ hbn (by omega)] at h
   cases hx : bs.idxOf? b with
   | some i =>
    rw [hx] at h
    left
    have hi : i < bs.length ∧ bs[i]? = some b := by
     have h9 := List.findIdx?_eq_some_iff_getElem.1 (show List.findIdx? (fun a => a == b) bs = some i from by simpa [List.idxOf?] using hx)
     obtain ⟨h10, h11, _⟩ := h9
     exact ⟨h10, by rw [List.getElem?_eq_getElem h10]; simpa using h11⟩
    refine ⟨i, ps[i]'(by omega), ?_, ?_, hp i _ _ (List.getElem?_eq_getElem (by omega)) h⟩
    ·rw [shift, if_pos hi.1, tauL_at (by rw [List.getElem?_append_left hi.1]; exact hi.2)]
    ·have : (ps ++ ns)[i]? = some (ps[i]'(by omega)) := by rw [List.getElem?_append_left (by omega)]; exact List.getElem?_eq_getElem (by omega)
     have := heapL_at (k := 0) this
     rwa [Nat.zero_add] at this
   | none =>
    rw [hx] at h
    right
    have h' : (delL st ds).heap.get b = some o := h
    rw [delL_get] at h'
    have hbs : b ∉ bs := by rw [List.idxOf?_eq_none_iff] at hx; exact hx
    by_cases hd : b ∈ ds
    ·rw [if_pos hd] at h'; cases h'
    ·rw [if_neg hd] at h'
     refine ⟨h', fun b0 o0 h0 e => ?_⟩
     obtain ⟨_, h2⟩ := heapL_get h0
     have hlt : b0 < os.length := by
      rcases Nat.lt_or_ge b0 os.length with q | q
      ·exact q
      ·rw [Nat.sub_zero, List.getElem?_eq_none q] at h2; cases h2
     have hx2 : (bs ++ ds)[b0]? = some ((bs ++ ds)[b0]'(by simp; omega)) := List.getElem?_eq_getElem _
     rw [tauL_at hx2] at e
     have : b ∈ bs ++ ds := by rw [← e]; exact List.getElem_mem _
     rcases List.mem_append.1 this with q | q
     ·exact hbs q
     ·exact hd q
end Go.Det
namespace Go.Det
universe u
variable {P : Program}
mutual
theorem ren_free (τ : Nat → Nat) : ∀ v : AV, AV.free v = true → AV.ren τ v = v
 | .ptr b o, h => by simp [AV.free] at h
 | .slice b o n c x e, h => by simp [AV.free] at h
 | .map b, h => by simp [AV.free] at h
 | .yield b, h => by simp [AV.free] at h
 | .func f a c, h => by
  simp only [AV.free, ifb_none, ifb_eq] at h
  split at h
  ·rename_i h0; simp only [AV.ren, rens_free τ a h0, rens_free τ c h]
  ·cases h
 | .agg l, h => by simp only [AV.ren, rens_free τ l (by simpa [AV.free] using h)]
 | .tuple l, h => by simp only [AV.ren, rens_free τ l (by simpa [AV.free] using h)]
 | .vs l n c x w e, h => by
  simp only [AV.free, ifb_eq] at h
  split at h
  ·rename_i h0
   cases w with
   | some b => simp at h0
   | none => simp only [AV.ren, rens_free τ l h]; rfl
  ·cases h
 | .vptr l o, h => by simp only [AV.ren, rens_free τ l (by simpa [AV.free] using h)]
 | .iface t v, h => by simp only [AV.ren, ren_free τ v (by simpa [AV.free] using h)]
 | .bool _, _ => rfl
 | .int _ _, _ => rfl
 | .str _, _ => rfl
 | .nilPtr, _ => rfl
 | .nilSlice, _ => rfl
 | .nilMap, _ => rfl
 | .nilFunc, _ => rfl
 | .nilIface, _ => rfl
 | .gptr _ _, _ => rfl
theorem rens_free (τ : Nat → Nat) : ∀ l : List AV, AV.frees l = true → AV.rens τ l = l
 | [], _ => rfl
 | v :: l, h => by
  simp only [AV.frees, ifb_eq] at h
  split at h
  ·rename_i h0; simp only [AV.rens, ren_free τ v h0, rens_free τ l h]
  ·cases h
end
mutual
theorem under_free (n : Nat) : ∀ v : AV, AV.free v = true → AV.under n v
 | .ptr b o, h => by simp [AV.free] at h
 | .slice b o k c x e, h => by simp [AV.free] at h
 | .map b, h => by simp [AV.free] at h
 | .yield b, h => by simp [AV.free] at h
 | .func f a c, h => by
  simp only [AV.free, ifb_eq] at h
  split at h
  ·rename_i h0; exact ⟨unders_free n a h0, unders_free n c h⟩
  ·cases h
 | .agg l, h => unders_free n l (by simpa [AV.free] using h)
 | .tuple l, h => unders_free n l (by simpa [AV.free] using h)
 | .vs l k c x w e, h => by
  simp only [AV.free, ifb_eq] at h
  split at h
  ·rename_i h0
   cases w with
   | some b => simp at h0
   | none => exact ⟨unders_free n l h, fun b hb => by cases hb⟩
  ·cases h
 | .vptr l o, h => unders_free n l (by simpa [AV.free] using h)
 | .iface t v, h => under_free n v (by simpa [AV.free] using h)
 | .bool _, _ => trivial
 | .int _ _, _ => trivial
 | .str _, _ => trivial
 | .nilPtr, _ => trivial
 | .nilSlice, _ => trivial
 | .nilMap, _ => trivial
 | .nilFunc, _ => trivial
 | .nilIface, _ => trivial
 | .gptr _ _, _ => trivial
theorem unders_free (n : Nat) : ∀ l : List AV, AV.frees l = true → AV.unders n l
 | [], _ => trivial
 | v :: l, h => by
  simp only [AV.frees, ifb_eq] at h
  split at h
  ·rename_i h0; exact ⟨under_free n v h0, unders_free n l h⟩
  ·cases h
end
theorem frees_append : ∀ {a b : List AV}, AV.frees a = true → AV.frees b = true → AV.frees (a ++ b) = true
 | [], _, _, h => h
 | v :: l, b, h, h' => by
  simp only [AV.frees, ifb_eq, List.cons_append] at h ⊢
  split at h
  ·rename_i h0; rw [if_pos h0]; exact frees_append h h'
  ·cases h
structure Enc (α : Type) where
 f : α → List AV
 e : Nat
 len : ∀ a, (f a).length = e
 scal : ∀ a, allScalar (f a) = true
 free : ∀ a, AV.frees (f a) = true
 drop : ∀ a, AV.drops (f a) = f a
theorem drops_append : ∀ a b : List AV, AV.drops (a ++ b) = AV.drops a ++ AV.drops b
 | [], _ => rfl
 | v :: a, b => by simp [AV.drops, drops_append a b]
theorem Enc.fdrop {α : Type} (E : Enc α) : ∀ l : List α, AV.drops (l.flatMap E.f) = l.flatMap E.f
 | [] => rfl
 | a :: l => by rw [List.flatMap_cons, drops_append, E.drop, Enc.fdrop E l]
theorem Enc.flen {α : Type} (E : Enc α) (l : List α) : (l.flatMap E.f).length = l.length * E.e := flatMap_len E.len l
theorem Enc.fscal {α : Type} (E : Enc α) (l : List α) : allScalar (l.flatMap E.f) = true := flatMap_scal E.scal l
theorem Enc.ffree {α : Type} (E : Enc α) : ∀ l : List α, AV.frees (l.flatMap E.f) = true
 | [] => rfl
 | a :: l => by rw [List.flatMap_cons]; exact frees_append (E.free a) (E.ffree l)
def lst {α : Type} (E : Enc α) (l : List α) : AV := .vs (l.flatMap E.f) l.length l.length false none E.e
def own {α : Type} (E : Enc α) (l : List α) (b : Nat) : AV := .vs (l.flatMap E.f) l.length l.length false (some b) E.e
theorem lst_free {α : Type} (E : Enc α) (l : List α) : AV.free (lst E l) = true := by simp [lst, AV.free, E.ffree]
def Enc.int (k : IntKind) : Enc Int := ⟨fun x => [.int k x], 1, fun _ => rfl, fun _ => rfl, fun _ => rfl, fun _ => rfl⟩
def Enc.list {α : Type} (E : Enc α) : Enc (List α) := ⟨fun l => [lst E l], 1, fun _ => rfl, fun _ => rfl, fun l => by simp [AV.frees, lst_free], fun l => by simp [AV.drops, AV.drop, lst, E.fdrop]⟩
theorem own_ren {α : Type} (E : Enc α) (l : List α) (b : Nat) (τ : Nat → Nat) : (own E l b).ren τ = own E l (τ b) := by simp [own, AV.ren, rens_free _ _ (E.ffree l)]
theorem own_under {α : Type} (E : Enc α) (l : List α) {b n : Nat} (h : b < n) : (own E l b).under n := ⟨unders_free _ _ (E.ffree l), fun b' hb => by injection hb with hb; omega⟩
theorem wk_nil {α : Type} (E : Enc α) : Wk .nilSlice (lst E []) := fun ρ x h => by cases h; exact .vsNil
theorem wk_vs {α : Type} {E : Enc α} {l : List α} {cs : List AV} {n c e : Nat} {x : Bool} {w : Option Nat} (h : cs = l.flatMap E.f ∧ n = l.length ∧ e = E.e) : Wk (.vs cs n c x w e) (lst E l) := by
 obtain ⟨rfl, rfl, rfl⟩ := h
 intro ρ v hv
 unfold lst
 generalize hcs : l.flatMap E.f = cs at hv ⊢
 generalize hn : l.length = n at hv ⊢
 cases hv with
 | vs h hs hl h1 h2 h3 h4 h5 => exact .vs h hs hl (Nat.le_refl _) (by omega) (fun h => by cases h) h4 (fun b hb => by cases hb)
 | vsNil => exact .vsNil
theorem wk_own {α : Type} {E : Enc α} {l : List α} {cs : List AV} {n c e b : Nat} {x : Bool} (h : WkL cs (l.flatMap E.f) ∧ n = l.length ∧ e = E.e) : Wk (.vs cs n c x (some b) e) (own E l b) := by
 obtain ⟨hcs, hn, rfl⟩ := h
 intro ρ v hv
 unfold own
 rw [← hn]
 cases hv with
 | vs g hs hl h1 h2 h3 h4 h5 => exact VR.vs (hcs.vrs g) (E.fscal l) (by rw [E.flen, hn]) (Nat.le_refl _) (by omega) (fun h => by cases h) h4 h5
def noD (D : List ADef) : Prop := match D with | [] => True | _ => False
theorem noD_eq {D : List ADef} (h : noD D) : D = [] := by cases D with | nil => rfl | cons a l => exact h.elim
def Got (T : Tr AV) (i : Nat) (u : AV) : Prop := ∃ v, T.get i = some v ∧ Wk v u
def onInt (q : IntKind) (v : AV) (k : Int → Prop) : Prop := match v with | .int q' n => ifp (eqKind q' q) (k n) False | _ => False
def onBool (v : AV) (k : Bool → Prop) : Prop := match v with | .bool b => k b | _ => False
def onStr (v : AV) (k : ByteArray → Prop) : Prop := match v with | .str b => k b | _ => False
def onPtr (v : AV) (k : Nat → Prop) : Prop := match v with | .ptr b o => ifp (Nat.beq o 0) (k b) False | _ => False
def onLst {α : Type} (E : Enc α) (v : AV) (k : List α → Prop) : Prop := ∃ l : List α, Wk v (lst E l) ∧ k l
def onOwn {α : Type} (E : Enc α) (st : St) (v : AV) (k : Nat → List α → Prop) : Prop :=
 match v with
 | .vs cs n c x (some b) e => obW (spareOf st b) fun _ => ∃ l : List α, (WkL cs (l.flatMap E.f) ∧ n = l.length ∧ e = E.e) ∧ k b l
 | _ => False
def isNilS (v : AV) (k : Prop) : Prop := match v with | .nilSlice => k | _ => False
theorem onInt_inv {q : IntKind} {v : AV} {k : Int → Prop} (h : onInt q v k) : ∃ n, v = .int q n ∧ k n := by
 unfold onInt at h
 split at h
 ·rw [ifp_F, eqKind_iff] at h; obtain ⟨rfl, h⟩ := h; exact ⟨_, rfl, h⟩
 ·exact h.elim
theorem onBool_inv {v : AV} {k : Bool → Prop} (h : onBool v k) : ∃ n, v = .bool n ∧ k n := by
 unfold onBool at h
 split at h
 ·exact ⟨_, rfl, h⟩
 ·exact h.elim
theorem onStr_inv {v : AV} {k : ByteArray → Prop} (h : onStr v k) : ∃ n, v = .str n ∧ k n := by
 unfold onStr at h
 split at h
 ·exact ⟨_, rfl, h⟩
 ·exact h.elim
theorem onPtr_inv {v : AV} {k : Nat → Prop} (h : onPtr v k) : ∃ b, v = .ptr b 0 ∧ k b := by
 unfold onPtr at h
 split at h
 ·rw [ifp_F] at h; obtain ⟨h1, h⟩ := h; exact ⟨_, by rw [of_beq h1], h⟩
 ·exact h.elim
theorem spareOf_get {st : St} {b : Nat} {u : Unit} (h : spareOf st b = some u) : st.heap.get b = some .spare := by
 unfold spareOf at h
 rw [ob_some] at h
 obtain ⟨o, k1, k2⟩ := h
 cases o <;> first | exact k1 | cases k2
theorem onOwn_inv {α : Type} {E : Enc α} {st : St} {v : AV} {k : Nat → List α → Prop} (h : onOwn E st v k) : ∃ b l, Wk v (own E l b) ∧ st.heap.get b = some .spare ∧ k b l := by
 unfold onOwn at h
 split at h
 ·rw [obW_iff] at h
  obtain ⟨u, h1, l, h2, h3⟩ := h
  exact ⟨_, l, wk_own h2, spareOf_get h1, h3⟩
 ·exact h.elim
theorem isNilS_inv {v : AV} {k : Prop} (h : isNilS v k) : v = .nilSlice ∧ k := by
 unfold isNilS at h
 split at h
 ·exact ⟨rfl, h⟩
 ·exact h.elim
theorem CodeN.at {bs ds : List Nat} {fn : FuncId} {nt : Nat} {c : Code} {Tc T T' : Tr AV} {st : St} {vm vm' : Bool} {gl gl' : Tr (List AV)} {rw' rw2 : TypeId → Bool} {os ps ns ps' ns' : List Ob} {o : Out} {e : Ex} {Tx : Tr AV}
  (h : CodeN P bs.length none fn nt c Tc (stL vm os gl rw') o) (ho : o = ⟨e, Tx, [], stL vm' (ps ++ ns) gl' rw2⟩)
  (hgl : ∀ g l, gl.get g = some l → st.gl.get g = some l ∧ AV.frees l = true)
  (hbd : (bs ++ ds).Nodup) (hos : (bs ++ ds).length = os.length)
  (hg : ∀ (i : Nat) (b : Nat) (o : Ob), (bs ++ ds)[i]? = some b → os[i]? = some o → (∃ o', st.heap.get b = some o' ∧ WkO o' (o.ren (tauL (bs ++ ds)))) ∧ o.under os.length)
  (hT : ∀ i v, Tc.get i = some v → Got T i (v.ren (tauL (bs ++ ds))) ∧ v.under os.length)
  (hb : bs.length = ps.length) (hpl : ps.length = ps'.length) (hnl : ns.length = ns'.length)
  (hp : ∀ (i : Nat) (o o' : Ob), ps[i]? = some o → ps'[i]? = some o' → WkO (o.ren (shift (tauL (bs ++ ds)) bs.length st.next)) o')
  (hn : ∀ (i : Nat) (o o' : Ob), ns[i]? = some o → ns'[i]? = some o' → WkO (o.ren (shift (tauL (bs ++ ds)) bs.length st.next)) o')
  (hT' : ∀ i v, T'.get i = some v → ∃ u, Tx.get i = some u ∧ Wk (u.ren (shift (tauL (bs ++ ds)) bs.length st.next)) v) :
  CodeS P none fn nt c T [] st ⟨e, T', [], newL (putL (delL st ds) bs ps') ns'⟩ := by
 subst ho
 exact CodeN.frame h rfl (Part.of (N := bs.length) hgl hos hbd hg) hT (Whole.of hb hbd (by simpa using hos.symm) hp hpl hn hnl) hT'
structure At (N : Nat) (ds : List Nat) (sl : List (Nat × AV)) (h : List Ob) (T : Tr AV) (st : St) : Prop where
 len : N + ds.length = h.length
 nd : (List.range N ++ ds).Nodup
 tmp : ∀ p ∈ sl, Got T p.1 (p.2.ren (tauL (List.range N ++ ds))) ∧ p.2.under h.length
 ob : ∀ (i b : Nat) (o : Ob), (List.range N ++ ds)[i]? = some b → h[i]? = some o → (∃ o', st.heap.get b = some o' ∧ WkO o' (o.ren (tauL (List.range N ++ ds)))) ∧ o.under h.length
theorem At.re {N : Nat} {ds : List Nat} {sl : List (Nat × AV)} {h : List Ob} {T : Tr AV} {st : St} (a : At N ds sl h T st) (vm : Bool) {gl : Tr (List AV)} {rw' : TypeId → Bool} (hf : ∀ g l, gl.get g = some l → AV.frees l = true) : Re N (tauL (List.range N ++ ds)) T st (mkT sl) (stL vm h gl rw') := by
 have hl : (List.range N ++ ds).length = h.length := by rw [List.length_append, List.length_range]; exact a.len
 refine ⟨fun i v hv => a.tmp (i, v) (mkT_get hv), fun b o hb => ?_, fun b b' h1 h2 e => ?_, fun b hb => ?_, hf⟩
 ·obtain ⟨_, h2⟩ := heapL_get hb
  rw [Nat.sub_zero] at h2
  have hlt : b < h.length := by
   rcases Nat.lt_or_ge b h.length with q | q
   ·exact q
   ·rw [List.getElem?_eq_none q] at h2; cases h2
  have hx : (List.range N ++ ds)[b]? = some ((List.range N ++ ds)[b]'(by omega)) := List.getElem?_eq_getElem _
  obtain ⟨h3, h4⟩ := a.ob b _ o hx h2
  exact ⟨hlt, by rw [tauL_at hx]; exact h3, h4⟩
 ·have h1' : b < (List.range N ++ ds).length := by rw [hl]; exact h1
  have h2' : b' < (List.range N ++ ds).length := by rw [hl]; exact h2
  rw [tauL_at (List.getElem?_eq_getElem h1'), tauL_at (List.getElem?_eq_getElem h2')] at e
  exact (List.getElem_inj a.nd).1 e
 ·exact tauL_at (by rw [List.getElem?_append_left (by simpa using hb)]; simp [hb])
theorem heap_loop {Z : Type u} {N : Nat} {k : Z → Nat} {fn : FuncId} {nt : Nat} {y : Code} {vm : Bool} {gl : Tr (List AV)} {rw' : TypeId → Bool} (hgf : ∀ g l, gl.get g = some l → AV.frees l = true) (S : Z → List (Nat × AV)) (H : Z → List Ob) (μ : Z → Nat) (Inv : Z → Prop) (R : Z → Ex → List (Nat × AV) → List Ob → Prop)
    (hH : ∀ z, Inv z → (H z).length = k z) (hNk : ∀ z, Inv z → N ≤ k z)
    (body : ∀ z, Inv z → ∃ o, CodeS P none fn nt y (mkT (S z)) [] (stL vm (H z) gl rw') o ∧ o.defers = [] ∧
      ((o.ex = .normal ∧ ∃ z' ds, Inv z' ∧ μ z' < μ z ∧ At N ds (S z') (H z') o.tmps o.st ∧ ∀ e out h, R z' e out h → R z e out h) ∨
       (o.ex ≠ .normal ∧ ∃ out h ds, At N ds out h o.tmps o.st ∧ R z o.ex out h)))
    {z : Z} (hz : Inv z) {T : Tr AV} {st : St} (hgs : ∀ g l, gl.get g = some l → st.gl.get g = some l) {bs ds : List Nat} (hb : bs.length = N) (hbd : (bs ++ ds).Nodup) (hlen : (bs ++ ds).length = k z)
    (hT : ∀ p ∈ S z, Got T p.1 (p.2.ren (tauL (bs ++ ds))) ∧ p.2.under (k z))
    (hO : ∀ (i b : Nat) (o : Ob), (bs ++ ds)[i]? = some b → (H z)[i]? = some o → (∃ o', st.heap.get b = some o' ∧ WkO o' (o.ren (tauL (bs ++ ds)))) ∧ o.under (k z)) :
    ∃ e out h, N ≤ h.length ∧ R z e out h ∧ ∀ (T' : Tr AV) (ps' ns' : List Ob), ps'.length = N → N + ns'.length = h.length →
      (∀ (i : Nat) (o o' : Ob), i < N → h[i]? = some o → ps'[i]? = some o' → WkO (o.ren (shift (tauL (bs ++ ds)) N st.next)) o') →
      (∀ (i : Nat) (o o' : Ob), h[N + i]? = some o → ns'[i]? = some o' → WkO (o.ren (shift (tauL (bs ++ ds)) N st.next)) o') →
      (∀ i v, T'.get i = some v → ∃ u, (mkT out).get i = some u ∧ Wk (u.ren (shift (tauL (bs ++ ds)) N st.next)) v) →
      CodeS P none fn nt (.loop y) T [] st ⟨e, T', [], newL (putL (delL st ds) bs ps') ns'⟩ := by
  obtain ⟨o, h1, h2, h3, e, out, h, h4, h5, h6⟩ := loop_rule (P := P) (N := N) (fn := fn) (nt := nt) (y := y) μ Inv (fun z => (mkT (S z), stL vm (H z) gl rw'))
    (fun z o => ∃ e out h, N ≤ h.length ∧ R z e out h ∧ o = ⟨e, mkT out, [], stL vm h gl rw'⟩) (fun z hz => by show N ≤ (H z).length; rw [hH z hz]; exact hNk z hz) gl (fun _ _ => rfl)
    (by
      intro z hz
      obtain ⟨o, k1, k2, k3⟩ := body z hz
      refine ⟨o, k1, k2, ?_⟩
      rcases k3 with ⟨he, z', ds, i1, i2, i3, i4⟩ | ⟨he, out, h, ds, i1, i2⟩
      · exact .inl ⟨he, z', _, i1, i2, i3.re vm hgf, fun o' ⟨e, out, h, j0, j1, j2⟩ => ⟨e, out, h, j0, i4 _ _ _ j1, j2⟩⟩
      · have : N ≤ h.length := by have := i1.len; omega
        exact .inr ⟨he, mkT out, stL vm h gl rw', _, i1.re vm hgf, this, rfl, o.ex, out, h, this, i2, rfl⟩)
    (μ z + 1) z (Nat.lt_succ_self _) hz
  refine ⟨e, out, h, h4, h5, fun T' ps' ns' g1 g2 g3 g4 g5 => ?_⟩
  subst hb
  have hsplit : h.take bs.length ++ h.drop bs.length = h := List.take_append_drop _ _
  refine CodeN.at (os := H z) (vm := vm) (vm' := vm) (ps := h.take bs.length) (ns := h.drop bs.length) (Tx := mkT out) (h1) (by rw [h6, hsplit]) (fun g l h => ⟨hgs g l h, hgf g l h⟩) hbd (by rw [hlen, hH z hz]) ?_ ?_ (by rw [List.length_take]; omega) (by rw [List.length_take]; omega) (by rw [List.length_drop]; omega) ?_ ?_ g5
  · intro i b o q1 q2; rw [hH z hz]; exact hO i b o q1 q2
  · intro i v hv; rw [hH z hz]; exact hT (i, v) (mkT_get hv)
  · intro i o o' q1 q2
    have hi : i < bs.length := by
      rcases Nat.lt_or_ge i bs.length with q | q
      · exact q
      · rw [List.getElem?_eq_none (by omega)] at q2; cases q2
    rw [List.getElem?_take_of_lt hi] at q1
    exact g3 i o o' hi q1 q2
  · intro i o o' q1 q2
    rw [List.getElem?_drop] at q1
    exact g4 i o o' q1 q2
theorem all_cons {α : Type} {Q : α → Prop} {a : α} {l : List α} (h : Q a) (t : ∀ p ∈ l, Q p) : ∀ p ∈ a :: l, Q p := fun p hp => by
 rcases List.mem_cons.1 hp with rfl | hp
 ·exact h
 ·exact t p hp
noncomputable def notInB (x : Nat) : List Nat → Bool
 | [] => true
 | y :: l => ifb (Nat.beq x y) false (notInB x l)
noncomputable def distB : List Nat → Bool
 | [] => true
 | x :: l => ifb (notInB x l) (distB l) false
noncomputable def distinct (l : List Nat) : Prop := distB l = true
theorem notInB_sound {x : Nat} : ∀ {l : List Nat}, notInB x l = true → x ∉ l
 | [], _ => by simp
 | y :: l, h => by
  simp only [notInB, ifb_eq] at h
  split at h
  ·cases h
  ·rename_i c
   intro hm
   rcases List.mem_cons.1 hm with rfl | hm
   ·exact c (beq_t rfl)
   ·exact notInB_sound h hm
theorem distinct.nodup : ∀ {l : List Nat}, distinct l → l.Nodup
 | [], _ => .nil
 | x :: l, h => by
  simp only [distinct, distB, ifb_eq] at h
  split at h
  ·rename_i c; exact List.nodup_cons.2 ⟨notInB_sound c, distinct.nodup (l := l) h⟩
  ·cases h
end Go.Det
namespace Go.Det
open Go.RowKit
variable {P : Program}
mutual
noncomputable def frzW (st : St) (x : AV) (k : AV → Prop) : Prop :=
 match x with
 | .slice b o n c ex e => rowW st b fun cs _ => Nat.add o (Nat.mul n e) ≤ cs.length ∧ k (.vs ((cs.drop o).take (Nat.mul n e)) n c ex none e)
 | .tuple l => frzsW st l fun l' => k (.tuple l')
 | .agg l => frzsW st l fun l' => k (.agg l')
 | x => k x
noncomputable def frzsW (st : St) (l : List AV) (k : List AV → Prop) : Prop :=
 match l with
 | [] => k []
 | v :: l => frzW st v fun u => frzsW st l fun m => k (u :: m)
end
noncomputable def Names.ice (ρ : Names) (st : St) (w : World) : Names :=
 open Classical in
 ⟨fun _ => none, fun a i => if (ρ.mem a i).isSome then ρ.mem a i else if ∃ b cs e L, st.heap.get b = some (.row cs e) ∧ ρ b = some L ∧ L.blk = a ∧ i < cs.length then w.cell? ⟨a, i, none⟩ else none⟩
theorem ice_mem {ρ : Names} {st : St} {w : World} {a i : Nat} {v : Value} (h : ρ.mem a i = some v) : (ρ.ice st w).mem a i = some v := by
 classical
 show (if (ρ.mem a i).isSome then ρ.mem a i else _) = some v
 rw [if_pos (by rw [h]; rfl)]; exact h
theorem ice_inv {ρ : Names} {st : St} {w : World} {a i : Nat} {v : Value} (h : (ρ.ice st w).mem a i = some v) : ρ.mem a i = some v ∨ ((∃ b cs e L, st.heap.get b = some (.row cs e) ∧ ρ b = some L ∧ L.blk = a ∧ i < cs.length) ∧ w.cell? ⟨a, i, none⟩ = some v) := by
 classical
 have h' : (if (ρ.mem a i).isSome then ρ.mem a i else if ∃ b cs e L, st.heap.get b = some (.row cs e) ∧ ρ b = some L ∧ L.blk = a ∧ i < cs.length then w.cell? ⟨a, i, none⟩ else none) = some v := h
 split at h'
 ·exact .inl h'
 ·split at h'
  ·rename_i q; exact .inr ⟨q, h'⟩
  ·cases h'
theorem ice_row {ρ : Names} {st : St} {w : World} (h : HR ρ st w) {b : Nat} {cs : List AV} {e : TypeId} {L : Loc} (hb : st.heap.get b = some (.row cs e)) (hL : ρ b = some L) {i : Nat} (hi : i < cs.length) {v : Value} (hv : w.cell? ⟨L.blk, i, none⟩ = some v) : (ρ.ice st w).mem L.blk i = some v := by
 classical
 show (if (ρ.mem L.blk i).isSome then ρ.mem L.blk i else if _ then _ else _) = some v
 split
 ·rename_i q
  obtain ⟨u, hu⟩ := Option.isSome_iff_exists.1 q
  have := (h.sep _ _ _ hu _ _ _ hb hL rfl).1
  cases this
 ·rw [if_pos ⟨b, cs, e, L, hb, hL, rfl, hi⟩]; exact hv
theorem ice_vr {ρ : Names} {st : St} {w : World} {v : AV} {y : Value} (h : VR ρ v y) (hf : AV.free (AV.drop v) = true) : VR (ρ.ice st w) (AV.drop v) y := VR.free (fun _ _ _ h => ice_mem h) h.dropped hf
theorem ice_slice {ρ : Names} {st : St} {w : World} (h : HR ρ st w) {b o n c e : Nat} {ex : Bool} {y : Value} (hy : VR ρ (.slice b o n c ex e) y) {cs : List AV} {te : TypeId} (hr : rowOf st b = some (cs, te)) (hn : o + n * e ≤ cs.length)
  (hf : AV.free (AV.drop (.vs ((cs.drop o).take (n * e)) n c ex none e)) = true) : VR (ρ.ice st w) (AV.drop (.vs ((cs.drop o).take (n * e)) n c ex none e)) y := by
 have hb := rowOf_get hr
 cases hy with
 | slice hL q2 q3 q4 q5 =>
  rename_i L a cap'
  obtain ⟨L', hL', hO⟩ := h.obj _ _ hb
  rw [hL] at hL'; injection hL' with hL'; subst hL'
  obtain ⟨arr, e', lo, hi, h1, h2, h3, h4, h5⟩ := hO
  let l' := arr.toList.take cs.length
  have hlen : l'.length = cs.length := by
   show (arr.toList.take cs.length).length = _
   have h9 : arr.toList.length = L.tot := by rw [Array.length_toList, h2]
   rw [List.length_take]; omega
  have hget : ∀ (i : Nat) (v : Value), l'[i]? = some v → i < cs.length ∧ w.cell? ⟨L.blk, i, none⟩ = some v := fun i v hv => by
   have hv' : (arr.toList.take cs.length)[i]? = some v := hv
   rw [List.getElem?_take] at hv'
   split at hv'
   ·rename_i q
    rw [Array.getElem?_toList] at hv'
    exact ⟨q, by simp only [World.cell?, h1]; simpa using hv'⟩
   ·cases hv'
  have hvr : VRs ρ cs l' := VRs.of_get hlen fun i v hv => by
   obtain ⟨_, v', q1, q2⟩ := h5 i v hv
   have hi : i < cs.length := by
    rcases Nat.lt_or_ge i cs.length with q | q
    ·exact q
    ·rw [List.getElem?_eq_none q] at hv; cases hv
   refine ⟨v', ?_, q2⟩
   show (arr.toList.take cs.length)[i]? = _
   rw [List.getElem?_take_of_lt hi, Array.getElem?_toList]
   rw [h3.1, Nat.zero_add] at q1; exact q1
  have hsc : allScalar cs = true := allScalar_iff.2 fun v hv => by
   obtain ⟨i, hi, rfl⟩ := List.getElem_of_mem hv
   exact (h5 i _ (List.getElem?_eq_getElem hi)).1
  have hv2 : VRs ρ ((cs.drop o).take (n * e)) ((l'.drop o).take (n * e)) := (hvr.drop _).take _
  have hsc2 : allScalar ((cs.drop o).take (n * e)) = true := allScalar_iff.2 fun u hu => allScalar_iff.1 hsc u (List.mem_of_mem_drop (List.mem_of_mem_take hu))
  have hf' : AV.frees (AV.drops ((cs.drop o).take (n * e))) = true := by simpa [AV.drop, AV.free] using hf
  have hv3 : VRs (ρ.ice st w) (AV.drops ((cs.drop o).take (n * e))) ((l'.drop o).take (n * e)) := VRs.free (fun _ _ _ h => ice_mem h) hv2.dropped hf'
  refine .vs (blk := L.blk) (off := o) hv3 (by rw [drops_scalar]; exact hsc2) (by rw [drops_length, List.length_take, List.length_drop]; omega) q2 q3 q4 ?_ (fun b hb => by cases hb)
  rcases q5 with q5 | ⟨q5, q6⟩
  ·exact .inl q5
  ·refine .inr ⟨by rw [q5, h3.1, Nat.zero_add], fun i v' hv' => ?_⟩
   have hi : i < n * e := by
    rcases Nat.lt_or_ge i (n * e) with q | q
    ·exact q
    ·rw [List.getElem?_eq_none (by rw [List.length_take]; omega)] at hv'; cases hv'
   rw [List.getElem?_take_of_lt hi, List.getElem?_drop] at hv'
   obtain ⟨g1, g2⟩ := hget _ _ hv'
   exact ice_row h hb hL g1 g2
mutual
theorem frz_sound {ρ : Names} {st : St} {w : World} (h : HR ρ st w) : ∀ {x : AV} {k : AV → Prop} {y : Value}, frzW st x k → VR ρ x y → ∃ u, k u ∧ (AV.free (AV.drop u) = true → VR (ρ.ice st w) (AV.drop u) y)
 | .slice b o n c ex e, k, y, hk, hy => by
  unfold frzW at hk
  obtain ⟨cs, te, h1, h2, h3⟩ := rowW_iff.1 hk
  exact ⟨_, h3, fun hf => ice_slice h hy h1 h2 hf⟩
 | .tuple l, k, y, hk, hy => by
  unfold frzW at hk
  cases hy with
  | tuple hy =>
   obtain ⟨us, h1, h2⟩ := frzs_sound h hk hy
   exact ⟨_, h1, fun hf => .tuple (h2 (by simpa [AV.drop, AV.free] using hf))⟩
 | .agg l, k, y, hk, hy => by
  unfold frzW at hk
  cases hy with
  | agg hy =>
   obtain ⟨us, h1, h2⟩ := frzs_sound h hk hy
   exact ⟨_, h1, fun hf => .agg (h2 (by simpa [AV.drop, AV.free] using hf))⟩
 | .bool b, k, y, hk, hy => ⟨_, by unfold frzW at hk; exact hk, ice_vr hy⟩
 | .int q n, k, y, hk, hy => ⟨_, by unfold frzW at hk; exact hk, ice_vr hy⟩
 | .str s, k, y, hk, hy => ⟨_, by unfold frzW at hk; exact hk, ice_vr hy⟩
 | .ptr a b, k, y, hk, hy => ⟨_, by unfold frzW at hk; exact hk, ice_vr hy⟩
 | .nilPtr, k, y, hk, hy => ⟨_, by unfold frzW at hk; exact hk, ice_vr hy⟩
 | .nilSlice, k, y, hk, hy => ⟨_, by unfold frzW at hk; exact hk, ice_vr hy⟩
 | .map b, k, y, hk, hy => ⟨_, by unfold frzW at hk; exact hk, ice_vr hy⟩
 | .nilMap, k, y, hk, hy => ⟨_, by unfold frzW at hk; exact hk, ice_vr hy⟩
 | .func a b c, k, y, hk, hy => ⟨_, by unfold frzW at hk; exact hk, ice_vr hy⟩
 | .yield b, k, y, hk, hy => ⟨_, by unfold frzW at hk; exact hk, ice_vr hy⟩
 | .nilFunc, k, y, hk, hy => ⟨_, by unfold frzW at hk; exact hk, ice_vr hy⟩
 | .nilIface, k, y, hk, hy => ⟨_, by unfold frzW at hk; exact hk, ice_vr hy⟩
 | .vs a b c d e f, k, y, hk, hy => ⟨_, by unfold frzW at hk; exact hk, ice_vr hy⟩
 | .vptr a b, k, y, hk, hy => ⟨_, by unfold frzW at hk; exact hk, ice_vr hy⟩
 | .gptr a b, k, y, hk, hy => ⟨_, by unfold frzW at hk; exact hk, ice_vr hy⟩
 | .iface a b, k, y, hk, hy => ⟨_, by unfold frzW at hk; exact hk, ice_vr hy⟩
theorem frzs_sound {ρ : Names} {st : St} {w : World} (h : HR ρ st w) : ∀ {l : List AV} {k : List AV → Prop} {ys : List Value}, frzsW st l k → VRs ρ l ys → ∃ us, k us ∧ (AV.frees (AV.drops us) = true → VRs (ρ.ice st w) (AV.drops us) ys)
 | [], k, ys, hk, hy => by
  unfold frzsW at hk
  cases hy
  exact ⟨[], hk, fun _ => .nil⟩
 | v :: l, k, ys, hk, hy => by
  unfold frzsW at hk
  cases hy with
  | cons hv ht =>
   obtain ⟨u, h1, h2⟩ := frz_sound h hk hv
   obtain ⟨us, h3, h4⟩ := frzs_sound h h1 ht
   refine ⟨_, h3, fun hf => ?_⟩
   simp only [AV.drops, AV.frees, ifb_eq] at hf
   split at hf
   ·rename_i h0; exact .cons (h2 h0) (h4 hf)
   ·cases hf
end
theorem CallS.liftF {f : FuncId} {args : List AV} {x v : AV} {st1 : St} {b : Bool} (h : CallS P f args (stE b) x st1) (ha : AV.frees args = true) (hk : frzW st1 x fun u => AV.free (AV.drop u) = true ∧ Wk (AV.drop u) v) (st : St) : CallS P f args st v st := by
 refine ⟨h.1, fun ρ w args' cs hH hA => ?_⟩
 have hE : HR ⟨fun _ => none, ρ.mem⟩ (stE b) w :=
  ⟨(fun b L h => by cases h), (fun b o h => by simp [stE, Tr.get] at h), (fun b b' o o' L L' h => by simp [stE, Tr.get] at h), hH.mem, (fun a i v h b o L hb => by simp [stE, Tr.get] at hb), (fun g l h => by simp [stE, Tr.get] at h)⟩
 obtain ⟨ρ1, w1, v', fr', G, H, V, s, l⟩ := h.2 _ w args' cs hE (VRs.free (ρ := ρ) (ρ' := ⟨fun _ => none, ρ.mem⟩) (fun _ _ _ h => h) hA ha)
 have hb : Below w.heap.size w w1 := ⟨G.os, G.tape, G.output, G.size, fun k hk => G.same k hk fun b o L hb => by simp [stE, Tr.get] at hb⟩
 have hnew : ∀ a i v, (ρ1.ice st1 w1).mem a i = some v → ρ.mem a i = some v ∨ w.heap.size ≤ a := fun a i v hv => by
  rcases ice_inv hv with hv | ⟨⟨b1, cs1, e1, L1, g1, g2, g3, g4⟩, _⟩
  ·rcases G.grew a i v hv with h1 | h1 | ⟨b, o, L, h1, _⟩
   ·exact .inl h1
   ·exact .inr h1
   ·simp [stE, Tr.get] at h1
  ·rcases Nat.lt_or_ge a w.heap.size with q | q
   ·obtain ⟨b0, o0, L0, q1, _⟩ := G.img b1 _ L1 g1 g2 (by rw [g3]; exact q)
    simp [stE, Tr.get] at q1
   ·exact .inr q
 have hmem : ∀ a i v, (ρ1.ice st1 w1).mem a i = some v → w1.cell? ⟨a, i, none⟩ = some v := fun a i v hv => by
  rcases ice_inv hv with hv | ⟨_, hv⟩
  ·exact H.mem _ _ _ hv
  ·exact hv
 have hle : ρ.le ⟨ρ.loc, (ρ1.ice st1 w1).mem⟩ := ⟨fun _ _ h => h, fun a i v hv => ice_mem (G.le.mem a i v hv)⟩
 obtain ⟨u, ⟨k1, k2⟩, k3⟩ := frz_sound H hk V
 obtain ⟨B, C⟩ := hH.beside hb G.drawn
 refine ⟨⟨ρ.loc, (ρ1.ice st1 w1).mem⟩, w1, v', fr', ?_, ?_, k2 _ _ (VR.free (ρ := ρ1.ice st1 w1) (ρ' := ⟨ρ.loc, (ρ1.ice st1 w1).mem⟩) (fun _ _ _ h => h) (k3 k1) k1), s, l⟩
 ·refine ⟨hle, Nat.le_refl _, fun _ _ h => .inl h, C.size, C.img, C.same, C.os, C.tape, C.output, C.drawn, fun a i v hv => ?_⟩
  rcases hnew a i v hv with h1 | h1
  ·exact .inl h1
  ·exact .inr (.inl h1)
 ·refine ⟨B.lt, fun b o hb => let ⟨L, h1, h2⟩ := B.obj b o hb; ⟨L, h1, h2.mono hle⟩, B.inj, hmem, fun a i v hv b o L hb hL he => ?_, fun g l hg => let ⟨l', a, c⟩ := hH.glob g l hg; ⟨l', a.mono hle, fun i v hv => hle.mem _ _ _ (c i v hv)⟩⟩
  rcases hnew a i v hv with h1 | h1
  ·exact hH.sep a i v h1 b o L hb hL he
  ·have := (hH.lt b L hL).2; omega
def Tells (u v : AV) : Prop := AV.free (AV.drop u) = true ∧ Wk (AV.drop u) v
theorem tells_free {u : AV} (h : AV.free u = true) (hd : AV.drop u = u) : Tells u u := ⟨by rw [hd]; exact h, by rw [hd]; exact Wk.refl u⟩
theorem tells_lst {α : Type} {E : Enc α} {l : List α} {cs : List AV} {n c e : Nat} {x : Bool} {w : Option Nat} (h : cs = l.flatMap E.f ∧ n = l.length ∧ e = E.e) : Tells (.vs cs n c x w e) (lst E l) := by
 obtain ⟨rfl, rfl, rfl⟩ := h
 refine ⟨by simp [AV.drop, AV.free, E.fdrop, E.ffree], ?_⟩
 simp only [AV.drop, E.fdrop]
 exact wk_vs ⟨rfl, rfl, rfl⟩
theorem tells_own {α : Type} {E : Enc α} {l : List α} {b : Nat} : Tells (own E l b) (lst E l) := tells_lst ⟨rfl, rfl, rfl⟩
theorem tells_nil {α : Type} (E : Enc α) : Tells .nilSlice (lst E []) := ⟨rfl, wk_nil E⟩
def TellsL : List AV → List AV → Prop
 | [], [] => True
 | u :: l, v :: m => Tells u v ∧ TellsL l m
 | _, _ => False
theorem TellsL.both : ∀ {l m : List AV}, TellsL l m → AV.frees (AV.drops l) = true ∧ WkL (AV.drops l) m
 | [], [], _ => ⟨rfl, trivial⟩
 | u :: l, v :: m, ⟨h, t⟩ => by
  obtain ⟨a, b⟩ := TellsL.both t
  exact ⟨by simp only [AV.drops, AV.frees]; rw [h.1, ifb_true]; exact a, h.2, b⟩
 | [], _ :: _, h => h.elim
 | _ :: _, [], h => h.elim
theorem tells_tuple {l m : List AV} (h : TellsL l m) : Tells (.tuple l) (.tuple m) := by
 obtain ⟨a, b⟩ := h.both
 refine ⟨a, fun ρ x hx => ?_⟩
 cases hx with
 | tuple hx => exact .tuple (b.vrs hx)
theorem wk_agg {l m : List AV} (h : WkL l m) : Wk (.agg l) (.agg m) := fun ρ x hx => by
 cases hx with
 | agg hx => exact .agg (h.vrs hx)
theorem tells_agg {l m : List AV} (h : TellsL l m) : Tells (.agg l) (.agg m) := by
 obtain ⟨a, b⟩ := h.both
 exact ⟨a, wk_agg b⟩
def CcOk (P : Program) (f : FuncId) (C : CallC) : Prop := ∀ args st Q, C args st Q → ∃ v st', CallS P f args st v st' ∧ Q v st'
noncomputable def lookL {α : Type} : List (Nat × α) → Nat → Option α
 | [], _ => none
 | (g, C) :: l, f => ifb (Nat.beq f g) (some C) (lookL l f)
theorem lookL_mem {α : Type} : ∀ {l : List (Nat × α)} {f : Nat} {C : α}, lookL l f = some C → (f, C) ∈ l
 | [], f, C, h => by cases h
 | (g, G) :: l, f, C, h => by
  simp only [lookL, ifb_eq] at h
  split at h
  ·rename_i q
   injection h with h; subst h
   obtain rfl : f = g := of_beq q
   simp
  ·exact List.mem_cons_of_mem _ (lookL_mem h)
noncomputable def KL (cs : List (Nat × CallC)) (ls : List (Nat × List (Nat × LoopC))) : Known := { tab := lookL cs, lp := fun f id => ob (lookL ls f) fun l => lookL l id }
theorem KL_ok {cs : List (Nat × CallC)} {ls : List (Nat × List (Nat × LoopC))} (h : ∀ p ∈ cs, CcOk P p.1 p.2) : KnownOk P (KL cs ls) := fun f C args st Q hC hr => h (f, C) (lookL_mem hC) args st Q hr
theorem CallS.wk {f : FuncId} {args args0 : List AV} {st st' : St} {v v' : AV} (h : CallS P f args st v st') (ha : WkL args0 args) (hv : Wk v v') : CallS P f args0 st v' st' := by
 refine ⟨h.1, fun ρ w args' cs hH hA => ?_⟩
 obtain ⟨ρ', w', x, fr', G, H, V, s, l⟩ := h.2 ρ w args' cs hH (ha.vrs hA)
 exact ⟨ρ', w', x, fr', G, H, hv _ _ V, s, l⟩
theorem Val.wk {f : FuncId} {args args0 : List AV} {v : AV} (h : Val P f args v) (ha : WkL args0 args) : Val P f args0 v := fun st => (h st).wk ha (Wk.refl v)
theorem Val.ofF (hm : P.follows .mixedOrders = true) {K : Known} (hK : KnownOk P K) {n : Nat} {f : FuncId} {args : List AV} {v : AV} {b : Bool} {X : (AV → Prop) → Prop} (ha : AV.frees args = true)
  (e : ∀ Q : AV → Prop, (callW P (runW P K n) f args (stE b) fun x st => frzW st x Q) = X Q) (h : X fun u => Tells u v) : Val P f args v := by
 intro st
 have h' : callW P (runW P K n) f args (stE b) (fun x st => frzW st x fun u => Tells u v) := (e _) ▸ h
 obtain ⟨x, st1, h1, h2⟩ := CallS.of_W hm hK n h'
 exact h1.liftF ha h2 st
end Go.Det
noncomputable section
namespace Go.Det
structure KEnc (κ : Type) where
 f : κ → AV
 free : ∀ a, AV.free (f a) = true
 same : ∀ a b, ∃ r : Bool, sameKey (f a) (f b) = some r ∧ (r = true ↔ a = b)
structure VEnc (β : Type) where
 f : β → AV
 free : ∀ a, AV.free (f a) = true
structure Mp (κ β : Type) where
 es : List (κ × β × Nat)
 clock : Nat
 keys : (es.map (·.1)).Nodup
 born : (es.map (·.2.2)).Nodup
 young : ∀ e ∈ es, e.2.2 < clock
namespace Mp
variable {κ β : Type}
def enc (KE : KEnc κ) (VE : VEnc β) (m : Mp κ β) : List AEntry := m.es.map fun e => ⟨KE.f e.1, VE.f e.2.1, e.2.2⟩
def empty : Mp κ β := ⟨[], 0, List.Pairwise.nil, List.Pairwise.nil, fun e h => by cases h⟩
open Classical in
def findL (k : κ) : List (κ × β × Nat) → Option β
 | [] => none
 | e :: es => if k = e.1 then some e.2.1 else findL k es
open Classical in
def idxL (k : κ) : List (κ × β × Nat) → Nat
 | [] => 0
 | e :: es => if k = e.1 then 0 else idxL k es + 1
def find (m : Mp κ β) (k : κ) : Option β := findL k m.es
def size (m : Mp κ β) : Nat := m.es.length
theorem findA_enc {KE : KEnc κ} {VE : VEnc β} (k : κ) : ∀ (es : List (κ × β × Nat)) (i : Nat), findA (KE.f k) (es.map fun e => ⟨KE.f e.1, VE.f e.2.1, e.2.2⟩) i = some ((findL k es).map fun v => (i + idxL k es, VE.f v))
 | [], i => rfl
 | e :: es, i => by
  obtain ⟨r, h1, h2⟩ := KE.same k e.1
  simp only [List.map_cons, findA, h1, ob_eq, Option.bind_some, findL, idxL]
  cases r with
  | true =>
   have := h2.1 rfl
   rw [ifb_true, if_pos this, if_pos this]; rfl
  | false =>
   have : ¬ k = e.1 := fun h => by have := h2.2 h; cases this
   rw [ifb_false, if_neg this, if_neg this, findA_enc k es, Nat.succ_eq_add_one]
   cases findL k es with
   | none => rfl
   | some v => simp only [Option.map_some]; rw [show i + 1 + idxL k es = i + (idxL k es + 1) by omega]
theorem find_none {k : κ} : ∀ {es : List (κ × β × Nat)}, findL k es = none ↔ k ∉ es.map (·.1)
 | [] => by simp [findL]
 | e :: es => by
  simp only [findL, List.map_cons, List.mem_cons, not_or]
  split
  ·rename_i h; simp [h]
  ·rename_i h; rw [find_none]; simp [h]
def setL (i : Nat) (v : β) (es : List (κ × β × Nat)) : List (κ × β × Nat) := es.modify i fun e => (e.1, v, e.2.2)
theorem setL_map1 (i : Nat) (v : β) (es : List (κ × β × Nat)) : (setL i v es).map (·.1) = es.map (·.1) := by
 apply List.ext_getElem?
 intro j
 simp only [setL, List.getElem?_map, List.getElem?_modify]
 by_cases c : i = j
 ·subst c; cases es[i]? <;> simp
 ·simp [c]
theorem setL_map2 (i : Nat) (v : β) (es : List (κ × β × Nat)) : (setL i v es).map (·.2.2) = es.map (·.2.2) := by
 apply List.ext_getElem?
 intro j
 simp only [setL, List.getElem?_map, List.getElem?_modify]
 by_cases c : i = j
 ·subst c; cases es[i]? <;> simp
 ·simp [c]
def upd (m : Mp κ β) (k : κ) (v : β) : Mp κ β :=
 match h : m.find k with
 | some _ => ⟨setL (idxL k m.es) v m.es, m.clock, by rw [setL_map1]; exact m.keys, by rw [setL_map2]; exact m.born, fun e he => by
   have : e.2.2 ∈ (setL (idxL k m.es) v m.es).map (·.2.2) := List.mem_map.2 ⟨e, he, rfl⟩
   rw [setL_map2] at this
   obtain ⟨e', h1, h2⟩ := List.mem_map.1 this
   rw [← h2]; exact m.young e' h1⟩
 | none => ⟨m.es ++ [(k, v, m.clock)], m.clock + 1, by
   rw [List.map_append, List.nodup_append]
   refine ⟨m.keys, by simp, fun a ha b hb => ?_⟩
   simp at hb; subst hb
   have := find_none.1 h
   exact fun e => this (e ▸ ha), by
   rw [List.map_append, List.nodup_append]
   refine ⟨m.born, by simp, fun a ha b hb => ?_⟩
   simp at hb; subst hb
   obtain ⟨e, h1, h2⟩ := List.mem_map.1 ha
   have := m.young e h1
   omega, fun e he => by
   rcases List.mem_append.1 he with he | he
   ·have := m.young e he; omega
   ·simp at he; subst he; simp⟩
theorem empty_find (k : κ) : (empty : Mp κ β).find k = none := rfl
variable {KE : KEnc κ} {VE : VEnc β}
theorem look (m : Mp κ β) (k : κ) (z : AV) : lookIs (KE.f k) (m.enc KE VE) z (match m.find k with | some v => VE.f v | none => z) (m.find k).isSome := by
 refine ⟨_, findA_enc k m.es 0, ?_, ?_⟩
 ·show optV z ((findL k m.es).map _) = (match findL k m.es with | some v => VE.f v | none => z)
  cases findL k m.es <;> rfl
 ·show ((findL k m.es).map _).isSome = (findL k m.es).isSome
  cases findL k m.es <;> rfl
def del (m : Mp κ β) (k : κ) : Mp κ β :=
 match m.find k with
 | none => m
 | some _ => ⟨m.es.eraseIdx (idxL k m.es), m.clock, m.keys.sublist ((List.eraseIdx_sublist _ _).map _), m.born.sublist ((List.eraseIdx_sublist _ _).map _), fun e he => m.young e ((List.eraseIdx_sublist _ _).mem he)⟩
end Mp
theorem sameInt {q : IntKind} (a b : Int) : sameKey (.int q a) (.int q b) = some (decide (a = b)) := by
 show ifb (eqKind q q) (some (eqInt a b)) none = _
 rw [show eqKind q q = true from (eqKind_iff).2 rfl, ifb_true, eqInt_eq]; rfl
def KEnc.int (q : IntKind) : KEnc Int := ⟨.int q, fun _ => rfl, fun a b => ⟨_, sameInt a b, by simp⟩⟩
def VEnc.int (q : IntKind) : VEnc Int := ⟨.int q, fun _ => rfl⟩
def VEnc.bool : VEnc Bool := ⟨.bool, fun _ => rfl⟩
end Go.Det
end
noncomputable section
namespace Go.Det
variable {P : Program}
theorem Wk.scalar {ρ : Names} {u v : AV} {x : Value} (h : VR ρ u x) (h' : VR ρ v x) (hs : v.scalar = true) : u.scalar = true := by
 cases u with
 | agg l => cases h; cases h'; cases hs
 | tuple l => cases h; cases h'; cases hs
 | _ => rfl
abbrev Env := List (Option Nat)
def envGet : Env → Nat → Option Nat
 | [], _ => none
 | o :: _, 0 => o
 | _ :: l, j + 1 => envGet l j
def envSet : Env → Nat → Nat → Env
 | [], _, _ => []
 | _ :: l, 0, b => some b :: l
 | o :: l, j + 1, b => o :: envSet l j b
def bindN (env : Env) (j b : Nat) (k : Env → Prop) : Prop :=
 Option.rec (ifp (Nat.ble (Nat.succ j) env.length) (k (envSet env j b)) False) (fun b' => ifp (Nat.beq b b') (k env) False) (envGet env j)
def nmOf (env : Env) (j : Nat) : Nat := Option.rec 0 (fun b => b) (envGet env j)
def Ext (a b : Env) : Prop := b.length = a.length ∧ ∀ j x, envGet a j = some x → envGet b j = some x
theorem Ext.refl (a : Env) : Ext a a := ⟨rfl, fun _ _ h => h⟩
theorem Ext.trans {a b c : Env} (h : Ext a b) (h' : Ext b c) : Ext a c := ⟨h'.1.trans h.1, fun j x hx => h'.2 j x (h.2 j x hx)⟩
theorem envSet_len : ∀ (env : Env) (j b : Nat), (envSet env j b).length = env.length
 | [], _, _ => rfl
 | _ :: _, 0, _ => rfl
 | _ :: l, j + 1, b => by simp [envSet, envSet_len l j b]
theorem envGet_set : ∀ {env : Env} {j b i : Nat}, j < env.length → envGet (envSet env j b) i = if i = j then some b else envGet env i
 | [], j, b, i, h => by simp at h
 | o :: l, 0, b, 0, h => by simp [envSet, envGet]
 | o :: l, 0, b, i + 1, h => by simp [envSet, envGet]
 | o :: l, j + 1, b, 0, h => by simp [envSet, envGet]
 | o :: l, j + 1, b, i + 1, h => by simp only [envSet, envGet]; rw [envGet_set (by simpa using h)]; simp
theorem bindN_sound {env : Env} {j b : Nat} {k : Env → Prop} (h : bindN env j b k) : ∃ env', Ext env env' ∧ envGet env' j = some b ∧ k env' := by
 unfold bindN at h
 cases hg : envGet env j with
 | none =>
  rw [hg] at h
  change ifp _ _ False at h
  rw [ifp_F] at h
  obtain ⟨h1, h2⟩ := h
  have hj : j < env.length := of_ble h1
  refine ⟨_, ⟨envSet_len _ _ _, fun i x hx => ?_⟩, by rw [envGet_set hj, if_pos rfl], h2⟩
  rw [envGet_set hj]
  by_cases e : i = j
  ·subst e; rw [hg] at hx; cases hx
  ·rw [if_neg e]; exact hx
 | some b' =>
  rw [hg] at h
  change ifp _ _ False at h
  rw [ifp_F] at h
  obtain ⟨h1, h2⟩ := h
  obtain rfl := of_beq h1
  exact ⟨env, Ext.refl _, hg, h2⟩
theorem nmOf_at {env env' : Env} {j b : Nat} (h : envGet env j = some b) (x : Ext env env') : nmOf env' j = b := by
 unfold nmOf; rw [x.2 j b h]
inductive Shp : Type → Type 1 where
 | int (q : IntKind) : Shp Int
 | bool : Shp Bool
 | str : Shp ByteArray
 | lst {α : Type} (E : Enc α) : Shp (List α)
 | own {α : Type} (E : Enc α) (j : Nat) : Shp (List α)
 | agg {α : Type} (E : Enc α) : Shp α
 | aggW {α : Type} (E : Enc α) : Shp α
 | ptr (j : Nat) : Shp Unit
 | yld (j : Nat) : Shp Unit
 | sl (j e : Nat) : Shp Nat
 | slq (j e : Nat) : Shp (Nat × Nat)
 | fnp (f : Nat) (js : List Nat) : Shp Unit
 | fnb (f : Nat) (js : List Nat) : Shp Unit
 | con (v : AV) (h : AV.free v = true) : Shp Unit
 | nilS : Shp Unit
 | mapr (j : Nat) : Shp Unit
 | num (q : IntKind) (n : Nat) : Shp Unit
def ptrsAv (nm : Nat → Nat) : List Nat → List AV
 | [] => []
 | j :: l => .ptr (nm j) 0 :: ptrsAv nm l
def Shp.av {α : Type} (s : Shp α) (nm : Nat → Nat) (a : α) : AV :=
 match s, a with
 | .int q, n => .int q n
 | .bool, b => .bool b
 | .str, s => .str s
 | .lst E, l => Det.lst E l
 | .own E j, l => Det.own E l (nm j)
 | .agg E, a => .agg (E.f a)
 | .aggW E, a => .agg (E.f a)
 | .ptr j, _ => .ptr (nm j) 0
 | .yld j, _ => .yield (nm j)
 | .sl j e, n => .slice (nm j) 0 n n false e
 | .slq j e, n => .slice (nm j) 0 n.1 n.2 false e
 | .fnp f js, _ => .func f [] (ptrsAv nm js)
 | .fnb f js, _ => .func f (ptrsAv nm js) []
 | .con v _, _ => v
 | .nilS, _ => .nilSlice
 | .mapr j, _ => .map (nm j)
 | .num q n, _ => .int q (Int.ofNat n)
def ltAll (k : Nat) : List Nat → Bool
 | [] => true
 | j :: l => ifb (Nat.ble (Nat.succ j) k) (ltAll k l) false
def Shp.lt {α : Type} (s : Shp α) (k : Nat) : Bool :=
 match s with
 | .own _ j | .ptr j | .yld j | .sl j _ | .slq j _ | .mapr j => Nat.ble (Nat.succ j) k
 | .fnp _ js => ltAll k js
 | .fnb _ js => ltAll k js
 | _ => true
theorem ptrs_ren (τ : Nat → Nat) : ∀ l, AV.rens τ (ptrsAv id l) = ptrsAv τ l
 | [] => rfl
 | j :: l => by simp only [ptrsAv, AV.rens, AV.ren, ptrs_ren τ l]; rfl
theorem ptrs_under {k : Nat} : ∀ {l : List Nat}, ltAll k l = true → AV.unders k (ptrsAv id l)
 | [], _ => trivial
 | j :: l, h => by
  simp only [ltAll, ifb_eq] at h
  split at h
  ·rename_i c; exact ⟨of_ble c, ptrs_under h⟩
  ·cases h
theorem Shp.ren {α : Type} (s : Shp α) (τ : Nat → Nat) (a : α) : (s.av id a).ren τ = s.av τ a := by
 cases s with
 | int | bool | str | ptr | yld | sl | slq | nilS | mapr | num => rfl
 | lst E => exact ren_free τ _ (lst_free E a)
 | own E j => exact own_ren E a j τ
 | agg E => simp only [Shp.av, AV.ren, rens_free τ _ (E.free a)]
 | aggW E => simp only [Shp.av, AV.ren, rens_free τ _ (E.free a)]
 | fnp f js => simp only [Shp.av, AV.ren, AV.rens, ptrs_ren]
 | fnb f js => simp only [Shp.av, AV.ren, AV.rens, ptrs_ren]
 | con v h => exact ren_free τ v h
theorem Shp.under {α : Type} (s : Shp α) {k : Nat} (h : s.lt k = true) (a : α) : (s.av id a).under k := by
 cases s with
 | int | bool | str | nilS | num => trivial
 | lst E => exact under_free k _ (lst_free E a)
 | own E j => exact own_under E a (of_ble h)
 | agg E => exact unders_free k _ (E.free a)
 | aggW E => exact unders_free k _ (E.free a)
 | ptr j => exact of_ble h
 | yld j => exact of_ble h
 | sl j e => exact of_ble h
 | slq j e => exact of_ble h
 | fnp f js => exact ⟨trivial, ptrs_under h⟩
 | fnb f js => exact ⟨ptrs_under h, trivial⟩
 | con v hf => exact under_free k v hf
 | mapr j => exact of_ble h
def rdPtrs : List Nat → List AV → Env → (Env → Prop) → Prop
 | [], [], env, k => k env
 | j :: js, v :: vs, env, k => onPtr v fun b => bindN env j b fun env => rdPtrs js vs env k
 | _, _, _, _ => False
def isNilL (l : List AV) (k : Prop) : Prop := match l with | [] => k | _ => False
def Shp.read {α : Type} (s : Shp α) (st : St) (v : AV) (env : Env) (k : α → Env → Prop) : Prop :=
 match s, k with
 | .int q, k => onInt q v fun n => k n env
 | .bool, k => onBool v fun n => k n env
 | .str, k => onStr v fun n => k n env
 | .lst E, k => onLst E v fun l => k l env
 | .own E j, k => onOwn E st v fun b l => bindN env j b (k l)
 | .agg E, k => ∃ a, v = .agg (E.f a) ∧ k a env
 | .aggW E, k => match v with | .agg cs => ∃ a, WkL cs (E.f a) ∧ k a env | _ => False
 | .ptr j, k => onPtr v fun b => bindN env j b (k ())
 | .yld j, k => match v with | .yield b => bindN env j b (k ()) | _ => False
 | .sl j e, k => match v with | .slice b o n c x e' => ifp (and (Nat.beq o 0) (Nat.beq e e')) (bindN env j b (k n)) False | _ => False
 | .slq j e, k => match v with | .slice b o n c x e' => ifp (and (Nat.beq o 0) (Nat.beq e e')) (bindN env j b (k (n, c))) False | _ => False
 | .fnp f js, k => match v with | .func g fi cap => ifp (Nat.beq g f) (isNilL fi (rdPtrs js cap env (k ()))) False | _ => False
 | .fnb f js, k => match v with | .func g fi cap => ifp (Nat.beq g f) (isNilL cap (rdPtrs js fi env (k ()))) False | _ => False
 | .con u _, k => v = u ∧ k () env
 | .nilS, k => isNilS v (k () env)
 | .mapr j, k => match v with | .map b => bindN env j b (k ()) | _ => False
 | .num q n, k => match v with | .int q' m => ifp (eqKind q' q) (ifp (eqInt m (Int.ofNat n)) (k () env) False) False | _ => False
theorem rdPtrs_sound : ∀ {js : List Nat} {vs : List AV} {env : Env} {k : Env → Prop}, rdPtrs js vs env k → ∃ env', Ext env env' ∧ (∀ env2, Ext env' env2 → vs = ptrsAv (nmOf env2) js) ∧ k env'
 | [], [], env, k, h => ⟨env, Ext.refl _, fun _ _ => rfl, h⟩
 | j :: js, v :: vs, env, k, h => by
  obtain ⟨b, rfl, h⟩ := onPtr_inv (show onPtr v fun b => bindN env j b fun env => rdPtrs js vs env k from h)
  obtain ⟨e1, x1, g1, h⟩ := bindN_sound (show bindN env j b fun env => rdPtrs js vs env k from h)
  obtain ⟨e2, x2, q2, h⟩ := rdPtrs_sound h
  exact ⟨e2, x1.trans x2, fun env2 x => by rw [ptrsAv, nmOf_at g1 (x2.trans x), ← q2 env2 x], h⟩
 | [], _ :: _, _, _, h => h.elim
 | _ :: _, [], _, _, h => h.elim
theorem Shp.read_sound {α : Type} {s : Shp α} {st : St} {v : AV} {env : Env} {k : α → Env → Prop} (h : s.read st v env k) : ∃ a env', Ext env env' ∧ (∀ env2, Ext env' env2 → Wk v (s.av (nmOf env2) a)) ∧ k a env' := by
 cases s with
 | int q => obtain ⟨n, rfl, h9⟩ := onInt_inv (show onInt q v fun n => k n env from h); exact ⟨n, env, Ext.refl _, fun _ _ => Wk.refl _, h9⟩
 | bool => obtain ⟨n, rfl, h⟩ := onBool_inv (show onBool v fun n => k n env from h); exact ⟨n, env, Ext.refl _, fun _ _ => Wk.refl _, h⟩
 | str => obtain ⟨n, rfl, h⟩ := onStr_inv (show onStr v fun n => k n env from h); exact ⟨n, env, Ext.refl _, fun _ _ => Wk.refl _, h⟩
 | lst E => obtain ⟨l, w, h⟩ := h; exact ⟨l, env, Ext.refl _, fun _ _ => w, h⟩
 | own E j =>
  obtain ⟨b, l, w, _, h⟩ := onOwn_inv (show onOwn E st v fun b l => bindN env j b (k l) from h)
  obtain ⟨e1, x1, g1, h⟩ := bindN_sound h
  exact ⟨l, e1, x1, fun env2 x => by show Wk v (Det.own E l (nmOf env2 j)); rw [nmOf_at g1 x]; exact w, h⟩
 | agg E => obtain ⟨a, rfl, h⟩ := h; exact ⟨a, env, Ext.refl _, fun _ _ => Wk.refl _, h⟩
 | aggW E =>
  simp only [Shp.read] at h
  split at h
  ·obtain ⟨a, w, h⟩ := h; exact ⟨a, env, Ext.refl _, fun _ _ => wk_agg w, h⟩
  ·exact h.elim
 | ptr j =>
  obtain ⟨b, rfl, h⟩ := onPtr_inv (show onPtr v fun b => bindN env j b (k ()) from h)
  obtain ⟨e1, x1, g1, h⟩ := bindN_sound h
  exact ⟨(), e1, x1, fun env2 x => by show Wk _ (.ptr (nmOf env2 j) 0); rw [nmOf_at g1 x]; exact Wk.refl _, h⟩
 | yld j =>
  simp only [Shp.read] at h
  split at h
  ·obtain ⟨e1, x1, g1, h⟩ := bindN_sound h
   exact ⟨(), e1, x1, fun env2 x => by show Wk _ (.yield (nmOf env2 j)); rw [nmOf_at g1 x]; exact Wk.refl _, h⟩
  ·exact h.elim
 | sl j e =>
  simp only [Shp.read] at h
  split at h
  ·rw [ifp_F, Bool.and_eq_true] at h
   obtain ⟨⟨h1, h2⟩, h⟩ := h
   obtain rfl := of_beq h1
   obtain rfl := of_beq h2
   obtain ⟨e1, x1, g1, h⟩ := bindN_sound h
   refine ⟨_, e1, x1, fun env2 x => ?_, h⟩
   show Wk _ (.slice (nmOf env2 j) 0 _ _ false e)
   rw [nmOf_at g1 x]
   intro ρ y hy
   cases hy with
   | slice q1 q2 q3 q4 q5 => exact .slice q1 (Nat.le_refl _) (Nat.le_trans q2 q3) (fun hh => by cases hh) q5
  ·exact h.elim
 | slq j e =>
  simp only [Shp.read] at h
  split at h
  ·rw [ifp_F, Bool.and_eq_true] at h
   obtain ⟨⟨h1, h2⟩, h⟩ := h
   obtain rfl := of_beq h1
   obtain rfl := of_beq h2
   obtain ⟨e1, x1, g1, h⟩ := bindN_sound h
   refine ⟨_, e1, x1, fun env2 x => ?_, h⟩
   show Wk _ (.slice (nmOf env2 j) 0 _ _ false e)
   rw [nmOf_at g1 x]
   intro ρ y hy
   cases hy with
   | slice q1 q2 q3 q4 q5 => exact .slice q1 q2 q3 (fun hh => by cases hh) q5
  ·exact h.elim
 | fnp f js =>
  simp only [Shp.read] at h
  split at h
  ·rename_i g fi cap
   rw [ifp_F] at h
   obtain ⟨h1, h⟩ := h
   obtain rfl := of_beq h1
   unfold isNilL at h
   split at h
   ·obtain ⟨e1, x1, q, h⟩ := rdPtrs_sound h
    exact ⟨(), e1, x1, fun env2 x => by show Wk _ (.func g [] (ptrsAv (nmOf env2) js)); rw [← q env2 x]; exact Wk.refl _, h⟩
   ·exact h.elim
  ·exact h.elim
 | fnb f js =>
  simp only [Shp.read] at h
  split at h
  ·rename_i g fi cap
   rw [ifp_F] at h
   obtain ⟨h1, h⟩ := h
   obtain rfl := of_beq h1
   unfold isNilL at h
   split at h
   ·obtain ⟨e1, x1, q, h⟩ := rdPtrs_sound h
    exact ⟨(), e1, x1, fun env2 x => by show Wk _ (.func g (ptrsAv (nmOf env2) js) []); rw [← q env2 x]; exact Wk.refl _, h⟩
   ·exact h.elim
  ·exact h.elim
 | con u hu => obtain ⟨rfl, h⟩ := h; exact ⟨(), env, Ext.refl _, fun _ _ => Wk.refl _, h⟩
 | nilS => obtain ⟨rfl, h⟩ := isNilS_inv (show isNilS v (k () env) from h); exact ⟨(), env, Ext.refl _, fun _ _ => Wk.refl _, h⟩
 | mapr j =>
  simp only [Shp.read] at h
  split at h
  ·obtain ⟨e1, x1, g1, h⟩ := bindN_sound h
   exact ⟨(), e1, x1, fun env2 x => by show Wk _ (.map (nmOf env2 j)); rw [nmOf_at g1 x]; exact Wk.refl _, h⟩
  ·exact h.elim
 | num q n =>
  simp only [Shp.read] at h
  split at h
  ·rw [ifp_F, ifp_F] at h
   obtain ⟨h1, h2, h⟩ := h
   obtain rfl := eqKind_iff.1 h1
   obtain rfl := eqInt_iff.1 h2
   exact ⟨(), env, Ext.refl _, fun _ _ => Wk.refl _, h⟩
  ·exact h.elim
inductive Tel : Type → Type 1 where
 | nil : Tel Unit
 | cons {α β : Type} (i : Nat) (s : Shp α) (t : Tel β) : Tel (α × β)
def Tel.av {α : Type} (t : Tel α) (nm : Nat → Nat) (a : α) : List (Nat × AV) :=
 match t, a with
 | .nil, _ => []
 | .cons i s t, (a, b) => (i, s.av nm a) :: t.av nm b
def Tel.lt {α : Type} (t : Tel α) (k : Nat) : Bool :=
 match t with
 | .nil => true
 | .cons _ s t => ifb (s.lt k) (t.lt k) false
def Tel.read {α : Type} (t : Tel α) (st : St) (T : Tr AV) (env : Env) (k : α → Env → Prop) : Prop :=
 match t, k with
 | .nil, k => k () env
 | .cons i s t, k => obW (T.get i) fun v => s.read st v env fun a env => t.read st T env fun b env => k (a, b) env
def Tel.readC {α : Type} (t : Tel α) (st : St) (cs : List AV) (env : Env) (k : α → Env → Prop) : Prop :=
 match t, k, cs with
 | .nil, k, [] => k () env
 | .cons _ s t, k, c :: cs => s.read st c env fun a env => t.readC st cs env fun b env => k (a, b) env
 | _, _, _ => False
def Tel.cells {α : Type} (t : Tel α) (nm : Nat → Nat) (a : α) : List AV :=
 match t, a with
 | .nil, _ => []
 | .cons _ s t, (a, b) => s.av nm a :: t.cells nm b
theorem Tel.read_sound {α : Type} {t : Tel α} {st : St} {T : Tr AV} : ∀ {env : Env} {k : α → Env → Prop}, t.read st T env k → ∃ a env', Ext env env' ∧ (∀ env2, Ext env' env2 → ∀ p ∈ t.av (nmOf env2) a, Got T p.1 p.2) ∧ k a env' := by
 induction t with
 | nil => intro env k h; exact ⟨(), env, Ext.refl _, fun _ _ p hp => by simp [Tel.av] at hp, h⟩
 | cons i s t ih =>
  intro env k h
  obtain ⟨v, hv, h⟩ := obW_iff.1 h
  obtain ⟨a, e1, x1, w, h⟩ := Shp.read_sound h
  obtain ⟨b, e2, x2, w2, h⟩ := ih h
  refine ⟨(a, b), e2, x1.trans x2, fun env2 x p hp => ?_, h⟩
  simp only [Tel.av, List.mem_cons] at hp
  rcases hp with rfl | hp
  ·exact ⟨v, hv, w env2 (x2.trans x)⟩
  ·exact w2 env2 x p hp
theorem Tel.readC_sound {α : Type} {t : Tel α} {st : St} : ∀ {cs : List AV} {env : Env} {k : α → Env → Prop}, t.readC st cs env k → ∃ a env', Ext env env' ∧ (∀ env2, Ext env' env2 → WkL cs (t.cells (nmOf env2) a)) ∧ k a env' := by
 induction t with
 | nil =>
  intro cs env k h
  cases cs with
  | nil => exact ⟨(), env, Ext.refl _, fun _ _ => trivial, h⟩
  | cons c cs => exact False.elim h
 | cons i s t ih =>
  intro cs env k h
  cases cs with
  | nil => exact False.elim h
  | cons c cs =>
   obtain ⟨a, e1, x1, w, h⟩ := Shp.read_sound (show s.read st c env _ from h)
   obtain ⟨b, e2, x2, w2, h⟩ := ih h
   exact ⟨(a, b), e2, x1.trans x2, fun env2 x => ⟨w env2 (x2.trans x), w2 env2 x⟩, h⟩
theorem Tel.ren {α : Type} (t : Tel α) (τ : Nat → Nat) : ∀ a : α, (t.av id a).map (fun p => (p.1, p.2.ren τ)) = t.av τ a := by
 induction t with
 | nil => intro a; rfl
 | cons i s t ih => intro ⟨a, b⟩; simp only [Tel.av, List.map_cons, Shp.ren, ih b]
theorem Tel.renC {α : Type} (t : Tel α) (τ : Nat → Nat) : ∀ a : α, AV.rens τ (t.cells id a) = t.cells τ a := by
 induction t with
 | nil => intro a; rfl
 | cons i s t ih => intro ⟨a, b⟩; simp only [Tel.cells, AV.rens, Shp.ren, ih b]
theorem Tel.under {α : Type} {t : Tel α} {k : Nat} : t.lt k = true → ∀ a : α, ∀ p ∈ t.av id a, p.2.under k := by
 induction t with
 | nil => intro _ a p hp; simp [Tel.av] at hp
 | cons i s t ih =>
  intro h ⟨a, b⟩ p hp
  simp only [Tel.lt, ifb_eq] at h
  split at h
  ·rename_i c
   simp only [Tel.av, List.mem_cons] at hp
   rcases hp with rfl | hp
   ·exact s.under c a
   ·exact ih h b p hp
  ·cases h
theorem Tel.underC {α : Type} {t : Tel α} {k : Nat} : t.lt k = true → ∀ a : α, AV.unders k (t.cells id a) := by
 induction t with
 | nil => intro _ a; trivial
 | cons i s t ih =>
  intro h ⟨a, b⟩
  simp only [Tel.lt, ifb_eq] at h
  split at h
  ·rename_i c; exact ⟨s.under c a, ih h b⟩
  ·cases h
theorem mkT_ren (τ : Nat → Nat) : ∀ (l : List (Nat × AV)) {i : Nat} {v : AV}, (mkT (l.map fun p => (p.1, p.2.ren τ))).get i = some v ↔ ∃ u, (mkT l).get i = some u ∧ u.ren τ = v
 | [], i, v => by simp [mkT, Tr.get]
 | p :: l, i, v => by
  simp only [List.map_cons, mkT, Tr.get_set]
  by_cases e : i = p.1
  ·simp [e]
  ·simp only [if_neg e]; exact mkT_ren τ l
inductive Bk : Type → Type 1 where
 | spare : Bk Unit
 | row {α : Type} (t : Tel α) : Bk α
 | rows {α : Type} (E : Enc α) (ty : TypeId) : Bk (List α)
 | loop {α : Type} (fn : FuncId) (nt : Nat) (ps : List Tmp) (asl body : Code) (s : LoopState) (p : Option Code) (t : Tel α) (d : Nat) : Bk α
 | dfr : Bk Unit
 | rowsW {α : Type} (E : Enc α) (ty : TypeId) : Bk (List α)
 | mp {κ β : Type} (KE : KEnc κ) (VE : VEnc β) : Bk (Mp κ β)
def Bk.ob {α : Type} (b : Bk α) (nm : Nat → Nat) (a : α) : Ob :=
 match b, a with
 | .spare, _ => .spare
 | .row t, a => .row (t.cells nm a) 0
 | .rows E ty, l => .row (l.flatMap E.f) ty
 | .rowsW E ty, l => .row (l.flatMap E.f) ty
 | .loop fn nt ps asl body s p t d, a => .loop { state := s, pending := p, fn, nt, tmps := mkT (t.av nm a), params := ps, assign := asl, body, defers := nm d }
 | .dfr, _ => .deferred true
 | .mp KE VE, m => .map (m.enc KE VE) m.clock
def Bk.lt {α : Type} (b : Bk α) (k : Nat) : Bool :=
 match b with
 | .row t => t.lt k
 | .loop _ _ _ _ _ _ _ t d => ifb (Nat.ble (Nat.succ d) k) (t.lt k) false
 | _ => true
def sameSt : LoopState → LoopState → Bool
 | .ready, .ready | .busy, .busy | .done, .done | .exhausted, .exhausted => true
 | _, _ => false
theorem sameSt_eq {a b : LoopState} (h : sameSt a b = true) : a = b := by cases a <;> cases b <;> first | rfl | cases h
def pendEq (a b : Option Code) : Prop := match a, b with | none, none => True | some x, some y => x = y | _, _ => False
theorem pendEq_eq {a b : Option Code} (h : pendEq a b) : a = b := by cases a <;> cases b <;> first | rfl | exact h.elim | exact congrArg some h
def Bk.read {α : Type} (b : Bk α) (st : St) (x : Nat) (env : Env) (k : α → Env → Prop) : Prop :=
 match b, k with
 | .spare, k => obW (spareOf st x) fun _ => k () env
 | .row t, k => rowW st x fun cs _ => t.readC st cs env k
 | .rows E ty, k => rowW st x fun cs e => ifp (Nat.beq e ty) (∃ l, cs = l.flatMap E.f ∧ k l env) False
 | .rowsW E ty, k => rowW st x fun cs e => ifp (Nat.beq e ty) (∃ l, WkL cs (l.flatMap E.f) ∧ k l env) False
 | .loop fn nt ps asl body s p t d, k => obW (loopOf st x) fun q => ifp (and (sameSt q.state s) (and (Nat.beq q.fn fn) (Nat.beq q.nt nt))) (pendEq q.pending p ∧ q.params = ps ∧ q.assign = asl ∧ q.body = body ∧ bindN env d q.defers fun env => t.read st q.tmps env k) False
 | .dfr, k => obW (st.heap.get x) fun o => (match o with | .deferred true => k () env | _ => False)
 | .mp KE VE, k => obW (mapOf st x) fun q => Prod.rec (fun es c => ∃ m, es = m.enc KE VE ∧ c = m.clock ∧ k m env) q
theorem mp_ren {κ β : Type} {KE : KEnc κ} {VE : VEnc β} (m : Mp κ β) (σ : Nat → Nat) : ((Bk.mp KE VE).ob id m).ren σ = .map (m.enc KE VE) m.clock := by
 show Ob.map _ _ = Ob.map _ _
 congr 1
 show (m.es.map _).map _ = m.es.map _
 rw [List.map_map]
 apply List.map_congr_left
 intro e he
 show AEntry.mk _ _ _ = AEntry.mk _ _ _
 rw [ren_free _ _ (KE.free _), ren_free _ _ (VE.free _)]
theorem WkO.rowL {cs cs' : List AV} {e e' : TypeId} (h : WkL cs cs') : WkO (.row cs e) (.row cs' e') := by
 refine ⟨fun ρ L y hy => ?_, fun q => by cases q⟩
 obtain ⟨arr, e', lo, hi, q1, q2, q3, q4, q5⟩ := hy
 refine ⟨arr, e', lo, hi, q1, q2, by rw [← h.length]; exact q3, q4, fun i v hv => ?_⟩
 obtain ⟨c, hc, hcw⟩ := h.get hv
 obtain ⟨r1, v', r2, r3⟩ := q5 i c hc
 exact ⟨Wk.scalar (hcw _ _ r3) r3 r1, v', r2, hcw _ _ r3⟩
theorem Bk.read_sound {α : Type} {b : Bk α} {st : St} {x : Nat} {env : Env} {k : α → Env → Prop} (h : b.read st x env k) :
  ∃ a env', Ext env env' ∧ (∃ o', st.heap.get x = some o' ∧ ∀ env2, Ext env' env2 → WkO o' ((b.ob id a).ren (nmOf env2))) ∧ k a env' := by
 cases b with
 | spare =>
  obtain ⟨u, h1, h⟩ := obW_iff.1 h
  exact ⟨(), env, Ext.refl _, ⟨_, spareOf_get h1, fun _ _ => WkO.refl _⟩, h⟩
 | row t =>
  obtain ⟨cs, e, h1, h⟩ := rowW_iff.1 (show rowW st x (fun cs _ => t.readC st cs env k) from h)
  obtain ⟨a, e1, x1, w, h⟩ := Tel.readC_sound h
  refine ⟨a, e1, x1, ⟨_, rowOf_get h1, fun env2 x => ?_⟩, h⟩
  have hw := w env2 x
  have e2 : (Bk.ob (.row t) id a).ren (nmOf env2) = .row (t.cells (nmOf env2) a) 0 := by show Ob.row _ _ = _; rw [Tel.renC]
  rw [e2]
  refine ⟨fun ρ L y hy => ?_, fun q => by cases q⟩
  obtain ⟨arr, e', lo, hi, q1, q2, q3, q4, q5⟩ := hy
  refine ⟨arr, e', lo, hi, q1, q2, by rw [← hw.length]; exact q3, q4, fun i v hv => ?_⟩
  obtain ⟨c, hc, hcw⟩ := hw.get hv
  obtain ⟨r1, v', r2, r3⟩ := q5 i c hc
  refine ⟨?_, v', r2, hcw _ _ r3⟩
  exact Wk.scalar (hcw _ _ r3) r3 r1
 | rows E ty =>
  obtain ⟨cs, e, h1, h⟩ := rowW_iff.1 (show rowW st x (fun cs e => ifp (Nat.beq e ty) (∃ l, cs = l.flatMap E.f ∧ k l env) False) from h)
  rw [ifp_F] at h
  obtain ⟨he, l, rfl, h9⟩ := h
  obtain rfl := of_beq he
  refine ⟨l, env, Ext.refl _, ⟨_, rowOf_get h1, fun env2 x => ?_⟩, h9⟩
  have e2 : (Bk.ob (.rows E e) id l).ren (nmOf env2) = .row (l.flatMap E.f) e := by show Ob.row _ _ = _; rw [rens_free _ _ (E.ffree l)]
  rw [e2]; exact WkO.refl _
 | rowsW E ty =>
  obtain ⟨cs, e, h1, h⟩ := rowW_iff.1 (show rowW st x (fun cs e => ifp (Nat.beq e ty) (∃ l, WkL cs (l.flatMap E.f) ∧ k l env) False) from h)
  rw [ifp_F] at h
  obtain ⟨he, l, hw, h9⟩ := h
  obtain rfl := of_beq he
  refine ⟨l, env, Ext.refl _, ⟨_, rowOf_get h1, fun env2 x => ?_⟩, h9⟩
  have e2 : (Bk.ob (.rowsW E e) id l).ren (nmOf env2) = .row (l.flatMap E.f) e := by show Ob.row _ _ = _; rw [rens_free _ _ (E.ffree l)]
  rw [e2]; exact WkO.rowL hw
 | loop fn nt ps asl body s p t d =>
  obtain ⟨q, h1, h⟩ := obW_iff.1 h
  rw [ifp_F, Bool.and_eq_true, Bool.and_eq_true] at h
  obtain ⟨⟨h2, h3, h4⟩, h5, h6, h7, h8, h⟩ := h
  obtain ⟨e1, x1, g1, h⟩ := bindN_sound h
  obtain ⟨a, e2, x2, w, h⟩ := Tel.read_sound h
  refine ⟨a, e2, x1.trans x2, ⟨_, loopOf_some.1 h1, fun env2 x => ?_⟩, h⟩
  refine ⟨fun ρ L y hy => ?_, fun q => by cases q⟩
  obtain ⟨tm, dl, q1, q2, q3⟩ := hy
  refine ⟨tm, dl, ?_, ⟨?_, fun i v hv => ?_⟩, ?_⟩
  ·rw [q1, ← sameSt_eq h2, ← of_beq h3, ← pendEq_eq h5, ← h6, ← h7, ← h8]
  ·show nt ≤ _; rw [← of_beq h4]; exact q2.1
  ·have hv' : ((mkT (t.av id a)).map (AV.ren (nmOf env2))).get i = some v := hv
   rw [Tr.get_map, Option.map_eq_some_iff] at hv'
   obtain ⟨u, hu, rfl⟩ := hv'
   have hm := mkT_get hu
   have : (i, u.ren (nmOf env2)) ∈ t.av (nmOf env2) a := by
    rw [← Tel.ren]; exact List.mem_map.2 ⟨(i, u), hm, rfl⟩
   obtain ⟨v0, g0, w0⟩ := w env2 x _ this
   obtain ⟨v', r1, r2⟩ := q2.2 i v0 g0
   exact ⟨v', r1, w0 _ _ r2⟩
  ·show ρ (nmOf env2 d) = some dl
   rw [nmOf_at g1 (x2.trans x)]; exact q3
 | dfr =>
  obtain ⟨o, h1, h⟩ := obW_iff.1 h
  split at h
  ·exact ⟨(), env, Ext.refl _, ⟨_, h1, fun _ _ => WkO.refl _⟩, h⟩
  ·exact h.elim
 | mp KE VE =>
  obtain ⟨⟨es, c⟩, h1, m, rfl, rfl, h⟩ := obW_iff.1 h
  refine ⟨m, env, Ext.refl _, ⟨_, mapOf_some.1 h1, fun env2 x => ?_⟩, h⟩
  rw [mp_ren]; exact WkO.refl _
end Go.Det
end
