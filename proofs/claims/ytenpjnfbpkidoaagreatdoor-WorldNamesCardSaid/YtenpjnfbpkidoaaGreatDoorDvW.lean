/- What must hold ahead of a piece of code, reckoned: the machine run on values that are known in part. Definitions. -/
import Derived.Test.YtenpjnfbpkidoaaGreatDoorDvBeside
set_option linter.unusedVariables false
noncomputable section
namespace Go.Det

/-- What a piece of code does, said of the model. -/
def CodeS (P : Program) (ro : Option Nat) (fn : FuncId) (nt : Nat) (c : Code) (T : Tr AV) (D : List ADef) (st : St) (o : Out) : Prop :=
  ∀ ρ w tm df b k cs, HR ρ st w → TR ρ nt T tm → DRs ρ D df → b.fn = fn → RoR ρ ro b.roundOf → Ran P nt ρ st w o (lone (on b tm df (.code c :: k)) cs w) b k cs

def ifp (b : Bool) (x y : Prop) : Prop := Bool.rec y x b
def obW {α : Type} (o : Option α) (k : α → Prop) : Prop := Option.rec False (fun a => k a) o

abbrev CallC := List AV → St → (AV → St → Prop) → Prop
abbrev LoopC := Option Nat → Nat → Tr AV → List ADef → St → (Out → Prop) → Prop
def LoopOk (P : Program) (fn : FuncId) (nt : Nat) (c : Code) (C : LoopC) : Prop := ∀ ro T D st Q, C ro nt T D st Q → ∃ o, CodeS P ro fn nt c T D st o ∧ Q o
/-- What is known of calls, and of loops. -/
structure Known where
  tab : FuncId → Option CallC
  lp : FuncId → Nat → Option LoopC
  /-- What is compared must be equal. -/
  eqs : Bool := false
  /-- Rows of these elements are known by their cells' list alone. -/
  sym : TypeId → Bool := fun _ => false
  /-- Regions in which what is compared must be equal (nil aside), and truths do not part the ways. -/
  eqAt : FuncId → Nat → Bool := fun _ _ => false
  /-- The same, for what is compared by != alone. -/
  neAt : FuncId → Nat → Bool := fun _ _ => false
  /-- Regions in which an order that is asked for must be there. -/
  ltAt : FuncId → Nat → Bool := fun _ _ => false
structure Flags where
  eqs : Bool
  sym : TypeId → Bool
  /-- Truths do not part the ways. -/
  ns : Bool := false
  nes : Bool := false
  lts : Bool := false

structure RecW where
  code : Option Nat → FuncId → Nat → Code → Tr AV → List ADef → St → (Out → Prop) → Prop
  call : FuncId → List AV → St → (AV → St → Prop) → Prop
  fl : Flags

def putW (nt : Nat) (T : Tr AV) (dst : Option Tmp) (v : AV) (k : Tr AV → Prop) : Prop :=
  Option.rec (k T) (fun d => ifp (Nat.ble (Nat.succ d) nt) (k (T.set d v)) False) dst

/-! Reading what is known to hold a type's values. -/
def cellsW (l : List AV) (o : Nat) (k : AV → Prop) : TypeDesc → Prop
  | .int q => ∃ x : Int, nth o l = some (.int q x) ∧ k (.int q x)
  | .bool => ∃ b : Bool, nth o l = some (.bool b) ∧ k (.bool b)
  | .string => ∃ s : ByteArray, nth o l = some (.str s) ∧ k (.str s)
  | .slice _ => ∃ (l' : List AV) (n c : Nat) (x : Bool) (w : Option Nat) (e : Nat), nth o l = some (.vs l' n c x w e) ∧ k (.vs l' n c x w e)
  | _ => ∃ v, nth o l = some v ∧ k v
def fieldsW (P : Program) (l : List AV) (o : Nat) (k : List AV → Prop) : List Field → Prop
  | [] => k []
  | f :: fs => obW (P.underlying f.type) fun d => ifp (match d with | .struct _ | .array _ _ => true | _ => false) False (cellsW l (Nat.add o f.offset) (fun v => fieldsW P l o (fun vs => k (v :: vs)) fs) d)
def offsOk (o : Nat) : List Field → Bool
  | [] => true
  | f :: fs => ifb (Nat.beq f.offset o) (offsOk (Nat.succ o) fs) false
def readW (P : Program) (t : TypeId) (l : List AV) (o : Nat) (k : AV → Prop) : Prop :=
  obW (P.underlying t) fun d =>
  match d with
  | .struct fs => obW (szT P t) fun n => ifp (and (Nat.ble 1 n) (and (Nat.beq fs.toList.length n) (offsOk 0 fs.toList))) (fieldsW P l o (fun vs => k (.agg vs)) fs.toList) False
  | .array _ _ => False
  | d => cellsW l o k d

def rowW (st : St) (b : Nat) (k : List AV → TypeId → Prop) : Prop := obW (rowOf st b) fun r => Prod.rec (fun cs e => k cs e) r
def loadW (P : Program) (sym : TypeId → Bool) (st : St) (t : TypeId) (a : AV) (k : AV → Prop) : Prop :=
  match a with
  | .ptr b o => rowW st b fun cs e => ifp (sym e) (readW P t cs o k) (obW (partA P t cs o) k)
  | .vptr l o => readW P t l o k
  | .gptr g o => obW (st.gl.get g) fun l => obW (partA P t l o) k
  | _ => False

/-- The list with xs written from place o on. -/
def setAt (o : Nat) (xs l : List AV) : List AV := l.take o ++ xs ++ l.drop (o + xs.length)
def storeW (P : Program) (sym : TypeId → Bool) (st : St) (t : TypeId) (a v : AV) (k : St → Prop) : Prop :=
  match a with
  | .ptr b o => obW (szT P t) fun n => ifp (and (Nat.beq v.cells.length n) (allScalar v.cells))
      (rowW st b fun cs e => ifp (sym e) (Nat.add o v.cells.length ≤ cs.length ∧ k (st.put b (.row (setAt o v.cells cs) e))) (obW (overAt o v.cells cs) fun cs' => k (st.put b (.row cs' e)))) False
  | _ => False

/-! Equality of structs. -/
def fieldsEqW (P : Program) (eq : TypeId → AV → AV → (Bool → Prop) → Prop) (xs ys : List AV) (k : Bool → Prop) : List Field → Prop
  | [] => k true
  | f :: fs =>
    ifp (f.name == "_") (fieldsEqW P eq xs ys k fs)
      (obW (partA P f.type xs f.offset) fun a => obW (partA P f.type ys f.offset) fun b =>
       eq f.type a b fun r => ifp r (fieldsEqW P eq xs ys k fs) (k false))
def eqW (P : Program) : Nat → TypeId → AV → AV → (Bool → Prop) → Prop
  | 0, _, _, _, _ => False
  | d + 1, t, x, y, k =>
    match x, y with
    | .agg xs, .agg ys => obW (P.underlying t) fun u => (match u with | .struct fields => ifp (P.stoodInHeld t) False (fieldsEqW P (eqW P d) xs ys k fields.toList) | _ => False)
    | x, y => obW (eqA P (d + 1) t x y) k
/-- They are equal. -/
def fieldsYesW (P : Program) (eq : TypeId → AV → AV → Prop) (xs ys : List AV) : List Field → Prop
  | [] => True
  | f :: fs =>
    ifp (f.name == "_") (fieldsYesW P eq xs ys fs)
      (obW (partA P f.type xs f.offset) fun a => obW (partA P f.type ys f.offset) fun b => eq f.type a b ∧ fieldsYesW P eq xs ys fs)
def yesW (P : Program) : Nat → TypeId → AV → AV → Prop
  | 0, _, _, _ => False
  | d + 1, t, x, y =>
    match x, y with
    | .agg xs, .agg ys => obW (P.underlying t) fun u => (match u with | .struct fields => ifp (P.stoodInHeld t) False (fieldsYesW P (yesW P d) xs ys fields.toList) | _ => False)
    | .int j a, .int j' b => obW (P.underlying t) fun u => (match u with | .int _ => ifp (eqKind j j') (a = b) False | _ => False)
    | .bool a, .bool b => obW (P.underlying t) fun u => (match u with | .bool => a = b | _ => False)
    | x, y => eqA P (d + 1) t x y = some true
def binYesW (P : Program) (op : BinOp) (t : TypeId) (x y : AV) (k : AV → Prop) : Prop :=
  match op with
  | .eql => yesW P 10000 t x y ∧ k (.bool true)
  | .neq => yesW P 10000 t x y ∧ k (.bool false)
  | _ => False
/-! Numbers. -/
def shlV (k : IntKind) (x y : Int) : Int := wrapF k (Int.mul x (.ofNat (Nat.pow 2 (ifb (Nat.ble (natOf y) (bitsOf k)) (natOf y) (bitsOf k)))))
def shrV (k : IntKind) (x y : Int) : Int := Int.fdiv x (.ofNat (Nat.pow 2 (ifb (Nat.ble (natOf y) (bitsOf k)) (natOf y) (bitsOf k))))
def binW (P : Program) (op : BinOp) (t : TypeId) (x y : AV) (k : AV → Prop) : Prop :=
  match op, x, y with
  | .shl, .int j a, .int _ b => 0 ≤ b ∧ k (.int j (shlV j a b))
  | .shr, .int j a, .int _ b => 0 ≤ b ∧ k (.int j (shrV j a b))
  | .quo, .int j a, .int j' b => ifp (eqKind j j') (b ≠ 0 ∧ k (.int j (wrapF j (Int.tdiv a b)))) False
  | .rem, .int j a, .int j' b => ifp (eqKind j j') (b ≠ 0 ∧ k (.int j (Int.tmod a b))) False
  | .eql, .agg xs, .agg ys => eqW P 10000 t (.agg xs) (.agg ys) fun b => k (.bool b)
  | .neq, .agg xs, .agg ys => eqW P 10000 t (.agg xs) (.agg ys) fun b => k (.bool (not b))
  | .eql, .vs _ n _ _ _ _, .nilSlice => obW (P.underlying t) fun d => (match d with | .slice _ => n ≠ 0 ∧ k (.bool false) | _ => False)
  | .neq, .vs _ n _ _ _ _, .nilSlice => obW (P.underlying t) fun d => (match d with | .slice _ => n ≠ 0 ∧ k (.bool true) | _ => False)
  | op, x, y => obW (binA P op t x y) k

def idxOk (z : Int) (n : Nat) : Prop := 0 ≤ z ∧ z < (n : Int)
def indexAddrW (P : Program) (t : TypeId) (x i : AV) (k : AV → Prop) : Prop :=
  match x, i with
  | .vs l len _ _ _ e, .int _ z => obW (P.underlying t) fun d => (match d with
    | .slice elem => obW (szT P elem) fun s => ifp (Nat.beq s e) (idxOk z len ∧ k (.vptr l (Nat.mul (natOf z) s))) False
    | _ => False)
  | .slice b o len _ _ e, .int _ z => obW (P.underlying t) fun d => (match d with
    | .slice elem => obW (szT P elem) fun s => ifp (Nat.beq s e) (idxOk z len ∧ k (.ptr b (Nat.add o (Nat.mul (natOf z) s)))) False
    | _ => False)
  | x, i => obW (indexAddrA P t x i) k

/-- The bounds of a part of a slice. -/
def natW (v : Option AV) (d y : Nat) (k : Nat → Prop) : Prop :=
  match v with
  | none => k d
  | some (.int _ z) => 0 ≤ z ∧ z ≤ (y : Int) ∧ k (natOf z)
  | some _ => False
def hiMx (hi mx : Option AV) : Bool :=
  match hi, mx with
  | none, some _ => false
  | _, _ => true
def mxEx (mx : Option AV) (ex : Bool) : Bool := Option.rec ex (fun _ => true) mx
def sliceW (P : Program) (st : St) (t : TypeId) (x : AV) (lo hi mx : Option AV) (k : AV → Prop) : Prop :=
  match x with
  | .vs l len cap ex _ e => obW (P.underlying t) fun d => (match d with
    | .slice elem => obW (szT P elem) fun s => ifp (and (Nat.beq s e) (hiMx hi mx))
        (natW mx cap cap fun m => natW hi len m fun h => natW lo 0 h fun lo => h ≤ len ∧ l.length = Nat.mul len e ∧
          k (.vs ((l.drop (Nat.mul lo s)).take (Nat.mul (Nat.sub h lo) s)) (Nat.sub h lo) (Nat.sub m lo) (mxEx mx ex) none e)) False
    | _ => False)
  | .slice b o len cap ex e => obW (P.underlying t) fun d => (match d with
    | .slice elem => obW (szT P elem) fun s => ifp (and (Nat.beq s e) (hiMx hi mx))
        (natW mx cap cap fun m => natW hi len m fun h => natW lo 0 h fun lo => k (.slice b (Nat.add o (Nat.mul lo s)) (Nat.sub h lo) (Nat.sub m lo) (mxEx mx ex) e)) False
    | _ => False)
  | .nilSlice => (match mx with
    | none => obW (sliceOpA P st t .nilSlice lo hi none) k
    | some c => obW (P.underlying t) fun d => (match d with
      | .slice elem => obW (szT P elem) fun _ => ifp (hiMx hi (some c)) (natW (some c) 0 0 fun m => natW hi 0 m fun h => natW lo 0 h fun _ => k .nilSlice) False
      | _ => False))
  | x => obW (sliceOpA P st t x lo hi mx) k

/-! append -/
def newW (st : St) (i : TypeInfo) (z : AV) (zs : Bool) (x : AV) (k : Nat → List AV → Prop) : Prop :=
  match x with
  | .vs l n _ _ _ e => ifp (and (not zs) (Nat.beq e i.size)) (l.length = Nat.mul n e ∧ k n l) False
  | .slice b o n _ _ e => ifp (and (not zs) (Nat.beq e i.size)) (rowW st b fun cs _ => Nat.add o (Nat.mul n e) ≤ cs.length ∧ k n ((cs.drop o).take (Nat.mul n e))) False
  | .int q n => ifp zs (0 ≤ n ∧ n ≤ 16777216 ∧ roomy (natOf n) i.bytes = true ∧ k (natOf n) (repl (natOf n) z.cells)) False
  | x => obW (newCells st i z zs x) fun q => Prod.rec (fun n cs => k n cs) q
def ontoW (sym : TypeId → Bool) (st : St) (i : TypeInfo) (el : TypeId) (s : AV) (n : Nat) (cs : List AV) (k : AV → St → Prop) (els : Prop) : Prop :=
  match s with
  | .nilSlice => ifp (and st.vm (not (st.rw el))) (ifp (Nat.beq n 0) (k .nilSlice st) (ifp (roomy n i.bytes) (k (.vs cs n n false (some st.next) i.size) (st.new .spare)) False))
      (ifp (sym el) (n ≠ 0 ∧ roomy n i.bytes = true ∧ k (.slice st.next 0 n n false i.size) (st.new (.row cs el))) els)
  | .vs l len cap ex own e => ifp (Nat.beq e i.size)
      (match own with
       | some b => ifp (roomy (Nat.add len n) i.bytes) (obW (spareOf st b) fun _ => k (.vs (l ++ cs) (Nat.add len n) (Nat.add len n) false (some st.next) e) ((st.del b).new .spare)) False
       | none => ifp (Nat.beq n 0) (k (.vs l len cap ex none e) st) (ifp (roomy (Nat.add len n) i.bytes)
          (ifp (and ex (Nat.beq cap len)) (k (.vs (l ++ cs) (Nat.add len n) (Nat.add len n) false (some st.next) e) (st.new .spare)) False)
          False)) False
  | .slice b o len cap ex e => rowW st b fun rc te => ifp (and (sym te) (Nat.beq e i.size))
      (ifp ex (cap < Nat.add len n ∧ o = 0 ∧ Nat.mul len e = rc.length ∧ roomy (Nat.add len n) i.bytes = true ∧ k (.slice st.next 0 (Nat.add len n) (Nat.add len n) false e) (st.new (.row (rc ++ cs) el)))
      ((cap < Nat.add len n ∧ o = 0 ∧ Nat.mul len e = rc.length ∧ roomy (Nat.add len n) i.bytes = true ∧ k (.slice st.next 0 (Nat.add len n) (Nat.add len n) false e) ((st.del b).new (.row (rc ++ cs) el))) ∨
       (Nat.add len n ≤ cap ∧ n ≠ 0 ∧ Nat.add (Nat.add o (Nat.mul len e)) cs.length ≤ rc.length ∧ k (.slice b o (Nat.add len n) cap ex e) (st.put b (.row (setAt (Nat.add o (Nat.mul len e)) cs rc) te))))) els
  | _ => els
def appendW (P : Program) (sym : TypeId → Bool) (st : St) (sT : TypeId) (xT : Option TypeId) (s x : AV) (k : AV → St → Prop) : Prop :=
  obW (P.underlying sT) fun d => (match d with
    | .slice elem => obW (P.info? elem) fun i => obW (zeroT P elem) fun z => obW (zerosT P xT) fun zs =>
      newW st i z zs x fun n cs => ifp (and (allScalar cs) (Nat.beq z.cells.length i.size)) (ontoW sym st i elem s n cs k (obW (appendA P st sT xT s x) fun p => Prod.rec (fun v st => k v st) p)) False
    | _ => False)

/-! copy -/
def srcW (st : St) (size n : Nat) (x : AV) (k : List AV → Prop) : Prop :=
  match x with
  | .slice b o _ _ _ e => ifp (Nat.beq e size) (rowW st b fun cs _ => Nat.add o (Nat.mul n size) ≤ cs.length ∧ k ((cs.drop o).take (Nat.mul n size))) False
  | .vs l _ _ _ _ e => ifp (Nat.beq e size) (Nat.mul n size ≤ l.length ∧ k (l.take (Nat.mul n size))) False
  | x => obW (srcCells st size n x) k
def minN (m k : Nat) : Nat := ifb (Nat.ble m k) m k
def copyW (P : Program) (st : St) (dT : TypeId) (d s : AV) (k : AV → St → Prop) : Prop :=
  match d with
  | .slice b o _ _ _ e' => obW (P.underlying dT) fun u => (match u with
    | .slice elem => obW (szT P elem) fun e => obW (lenA s) fun m => obW (lenA d) fun n => ifp (Nat.beq e e')
        (srcW st e (minN m n) s fun cs => rowW st b fun rc te => ifp (allScalar cs) (Nat.add o cs.length ≤ rc.length ∧ k (.int .i64 (.ofNat (minN m n))) (st.put b (.row (setAt o cs rc) te))) False) False
    | _ => False)
  | d => obW (copyA P st dT d s) fun p => Prod.rec (fun v st => k v st) p
def isAppend : Callee → Bool
  | .builtin .append => true
  | _ => false
def isCopy : Callee → Bool
  | .builtin .copy => true
  | _ => false
/-! Slices that are made. -/
def makeW (P : Program) (vm : Bool) (name : Nat) (t : TypeId) (l c : AV) (k : AV → Ob → Prop) : Prop :=
  match l, c with
  | .int _ n, .int _ m => obW (P.underlying t) fun u => (match u with
    | .slice elem => obW (P.info? elem) fun i => obW (zeroT P elem) fun z => ifp (and (Nat.beq z.cells.length i.size) (allScalar z.cells))
        (0 ≤ n ∧ n ≤ m ∧ m ≤ 16777216 ∧ roomy (natOf m) i.bytes = true ∧
          ifp vm (n = 0 ∧ k (.vs [] 0 (natOf m) true (some name) i.size) .spare) (k (.slice name 0 (natOf n) (natOf m) true i.size) (.row (repl (natOf m) z.cells) elem))) False
    | _ => False)
  | _, _ => False
def freshW (P : Program) (vm : Bool) (T : Tr AV) (name : Nat) (op : Op) (k : AV → Ob → Prop) : Prop :=
  match op with
  | .makeSlice t l c => obW (opd T l) fun a => obW (opd T c) fun b => makeW P (and vm (isZeroO l)) name t a b k
  | op => obW (freshA P vm T name op) fun q => Prod.rec (fun v o => k v o) q
/-! Maps of which the contents are known by a list. -/
def optV (z : AV) (r : Option (Nat × AV)) : AV := Option.rec z (fun p => p.2) r
def lookIs (k : AV) (es : List AEntry) (z v : AV) (b : Bool) : Prop := ∃ r, findA k es 0 = some r ∧ optV z r = v ∧ r.isSome = b
def updIs (k v : AV) (es : List AEntry) (c : Nat) (es' : List AEntry) (c' : Nat) : Prop :=
  ∃ r, findA k es 0 = some r ∧ (match r with | some p => es' = setEntry v p.1 es ∧ c' = c | none => es' = es ++ [⟨k, v, c⟩] ∧ c' = Nat.succ c)
def entIs (k : AV) (es : List AEntry) (c : Nat) (z v : AV) (n : Nat) (es' : List AEntry) (c' : Nat) : Prop :=
  ∃ r, findA k es 0 = some r ∧ (match r with | some p => v = p.2 ∧ (∃ e, nth p.1 es = some e ∧ n = e.born) ∧ es' = es ∧ c' = c | none => v = z ∧ n = c ∧ es' = es ++ [⟨k, z, c⟩] ∧ c' = Nat.succ c)
def stIs (n : Nat) (v : AV) (es es' : List AEntry) : Prop := n ≤ 9223372036854775807 ∧ ∃ i, findBorn n es 0 = some i ∧ es' = setEntry v i es
def delIs (k : AV) (es es' : List AEntry) : Prop := ∃ r, findA k es 0 = some r ∧ es' = (match r with | some p => dropEntry p.1 es | none => es)
def valW (R : AV → Prop) (k : AV → Prop) : TypeDesc → Prop
  | .int q => ∃ x : Int, R (.int q x) ∧ k (.int q x)
  | .bool => ∃ b : Bool, R (.bool b) ∧ k (.bool b)
  | .string => ∃ s : ByteArray, R (.str s) ∧ k (.str s)
  | .slice _ => ∃ (l' : List AV) (n c : Nat) (x : Bool) (w : Option Nat) (e : Nat), R (.vs l' n c x w e) ∧ k (.vs l' n c x w e)
  | _ => ∃ v, R v ∧ k v
/-- A map whose type is told to be known by its list: its entries. -/
def mapW (P : Program) (sym : TypeId → Bool) (st : St) (t : TypeId) (m k : AV) (els : Prop) (kk : Nat → List AEntry → Nat → TypeId → Prop) : Prop :=
  match m with
  | .map b => ifp (sym t) (obW (P.underlying t) fun d => (match d with
      | .map key elem => ifp (keyKind P key k) (obW (mapOf st b) fun q => Prod.rec (fun es c => kk b es c elem) q) False
      | _ => False)) els
  | _ => els
def lookupW (P : Program) (sym : TypeId → Bool) (st : St) (t : TypeId) (m k : AV) (ok : Bool) (Q : AV → Prop) : Prop :=
  mapW P sym st t m k (obW (lookupA P st t m k ok) Q) fun _ es _ elem =>
    obW (zeroT P elem) fun z => obW (P.underlying elem) fun d => ∃ c : Bool, valW (fun v => lookIs k es z v c) (fun v => Q (ifb ok (.tuple [v, .bool c]) v)) d
def mapUpdateW (P : Program) (sym : TypeId → Bool) (st : St) (t : TypeId) (m k v : AV) (Q : St → Prop) : Prop :=
  mapW P sym st t m k (obW (mapUpdateA P st t m k v) Q) fun b es c _ => ∃ es' c', updIs k v es c es' c' ∧ Q (st.put b (.map es' c'))
def mapEntryW (P : Program) (sym : TypeId → Bool) (st : St) (t : TypeId) (m k : AV) (Q : AV → St → Prop) : Prop :=
  mapW P sym st t m k (obW (mapEntryA P st t m k) fun p => Prod.rec (fun v s => Q v s) p) fun b es c elem =>
    obW (zeroT P elem) fun z => obW (P.underlying elem) fun d => ∃ (n : Nat) (es' : List AEntry) (c' : Nat), valW (fun v => entIs k es c z v n es' c') (fun v => Q (.tuple [v, .int .i64 (.ofNat n)]) (st.put b (.map es' c'))) d
def entryStoreW (sym : TypeId → Bool) (st : St) (t : TypeId) (m s v : AV) (Q : St → Prop) : Prop :=
  match m, s with
  | .map b, .int _ (.ofNat n) => ifp (sym t) (obW (mapOf st b) fun q => Prod.rec (fun es c => ∃ es', stIs n v es es' ∧ Q (st.put b (.map es' c))) q) (obW (entryStoreA st m s v) Q)
  | m, s => obW (entryStoreA st m s v) Q
def deleteW (P : Program) (sym : TypeId → Bool) (st : St) (t : TypeId) (m k : AV) (Q : St → Prop) : Prop :=
  mapW P sym st t m k (obW (deleteA P st t m k) Q) fun b es c _ => ∃ es', delIs k es es' ∧ Q (st.put b (.map es' c))
def isDelete : Callee → Bool
  | .builtin .delete => true
  | _ => false
/-- Is one of them nil? Then what is compared need not be equal. -/
def nilish : AV → Bool
  | .nilPtr | .nilSlice | .nilMap | .nilFunc | .nilIface => true
  | _ => false
def isNe : BinOp → Bool
  | .neq => true
  | _ => false
def isLt : BinOp → Bool
  | .lss | .leq | .gtr | .geq | .eql => true
  | _ => false
/-- The order that is asked for is there; what is held equal is not. -/
def ltYesW (op : BinOp) (x y : AV) (k : AV → Prop) : Prop :=
  match op, x, y with
  | .lss, .int j a, .int j' b => ifp (eqKind j j') (a < b ∧ k (.bool true)) False
  | .leq, .int j a, .int j' b => ifp (eqKind j j') (a ≤ b ∧ k (.bool true)) False
  | .gtr, .int j a, .int j' b => ifp (eqKind j j') (b < a ∧ k (.bool true)) False
  | .geq, .int j a, .int j' b => ifp (eqKind j j') (b ≤ a ∧ k (.bool true)) False
  | .eql, .int j a, .int j' b => ifp (eqKind j j') (a ≠ b ∧ k (.bool false)) False
  | _, _, _ => False
def aopW (fl : Flags) (P : Program) (T : Tr AV) (st : St) (op : Op) (kv : AV → St → Prop) (kc : FuncId → List AV → Prop) (ky : Nat → List AV → Prop) (kd : FuncId → List AV → Prop) : Prop :=
  match op with
  | .load t a => obW (opd T a) fun a => loadW P fl.sym st t a fun v => kv v st
  | .store t a v => obW (opd T a) fun a => obW (opd T v) fun v => storeW P fl.sym st t a v fun st' => kv undefA st'
  | .makeSlice t l c => freshW P st.vm T st.next (.makeSlice t l c) fun v o => kv v (st.new o)
  | .binOp op t x y _ => obW (opd T x) fun a => obW (opd T y) fun b => ifp (guardOk P op t x y a b) (ifp (and fl.lts (isLt op)) (ltYesW op a b fun v => kv v st) (ifp (and (or (and fl.eqs (isEq op)) (and fl.nes (isNe op))) (not (or (nilish a) (nilish b)))) (binYesW P op t a b fun v => kv v st) (binW P op t a b fun v => kv v st))) False
  | .indexAddr t x i => obW (opd T x) fun x => obW (opd T i) fun i => indexAddrW P t x i fun v => kv v st
  | .slice t x lo hi mx => obW (opd T x) fun x => obW (opdO T lo) fun lo => obW (opdO T hi) fun hi => obW (opdO T mx) fun mx => sliceW P st t x lo hi mx fun v => kv v st
  | .call c => ifp (isAppend c.callee)
      (obW (opds T c.args.toList) fun as => (match as, c.argTypes.toList with
        | [s, x], t :: r => appendW P fl.sym st t r.head? s x fun v st => kv v st
        | _, _ => False))
      (ifp (isCopy c.callee)
        (obW (opds T c.args.toList) fun as => (match as, c.argTypes.toList with
          | [d, s], t :: _ => copyW P st t d s fun v st => kv v st
          | _, _ => False))
        (ifp (isDelete c.callee)
          (obW (opds T c.args.toList) fun as => (match as, c.argTypes.toList with
            | [m, k], t :: _ => deleteW P fl.sym st t m k fun st => kv undefA st
            | _, _ => False))
          (obW (aop P T st op) fun r => OpR.rec kv kc ky kd r)))
  | .lookup t x i ok => obW (opd T x) fun x => obW (opd T i) fun i => lookupW P fl.sym st t x i ok fun v => kv v st
  | .mapUpdate t m k x => obW (opd T m) fun m => obW (opd T k) fun k => obW (opd T x) fun x => mapUpdateW P fl.sym st t m k x fun st => kv undefA st
  | .mapEntry t m k => obW (opd T m) fun m => obW (opd T k) fun k => mapEntryW P fl.sym st t m k fun v st => kv v st
  | .entryStore t m s x => obW (opd T m) fun m => obW (opd T s) fun s => obW (opd T x) fun x => entryStoreW fl.sym st t m s x fun st => kv undefA st
  | op => obW (aop P T st op) fun r => OpR.rec kv kc ky kd r

/-- A truth that is not known parts the ways where it is made. -/
def splitW (v : AV) (k : AV → Prop) : Prop := AV.rec (motive_1 := fun _ => Prop) (motive_2 := fun _ => Unit) (fun b => ifp b (k (.bool true)) (k (.bool false))) (fun a b => k (.int a b)) (fun s => k (.str s)) (fun a b => k (.ptr a b)) (k .nilPtr) (fun a b c d e f => k (.slice a b c d e f)) (k .nilSlice) (fun a => k (.map a)) (k .nilMap) (fun f a b _ _ => k (.func f a b)) (fun l => k (.yield l)) (k .nilFunc) (k .nilIface) (fun l _ => k (.agg l)) (fun l _ => k (.tuple l)) (fun l a b c d e _ => k (.vs l a b c d e)) (fun l o _ => k (.vptr l o)) (fun a b => k (.gptr a b)) (fun t v _ => k (.iface t v)) () (fun _ _ _ _ => ()) v
def splitF (ns : Bool) (v : AV) (k : AV → Prop) : Prop := ifp ns (k v) (splitW v k)
/-! Operations, regions. -/
def setAllW (nt : Nat) (k : Tr AV → Prop) : Tr AV → List Tmp → List AV → Prop
  | T, [], [] => k T
  | T, p :: ps, v :: vs => ifp (Nat.ble (Nat.succ p) nt) (setAllW nt k (T.set p v) ps vs) False
  | _, _, _ => False
/-- A round of a loop over a function. -/
def yieldW (r : RecW) (l : Nat) (args : List AV) (st : St) (k : Bool → St → Prop) : Prop :=
  obW (loopOf st l) fun p => LoopState.rec (setAllW p.nt (fun T =>
    r.code (some l) p.fn p.nt p.assign T [] st fun o1 => Out.rec (fun e T D st1 => Ex.rec
      (obW (loopOf st1 l) fun q => LoopState.rec
        (r.code (some l) p.fn p.nt p.body T D (st1.put l (.loop { q with state := .busy })) fun o2 => Out.rec (fun e2 T2 D2 st2 =>
          ifp (isNil D2) (obW (loopOf st2 l) fun q2 => Ex.rec
            (k true (st2.put l (.loop { q2 with state := .ready, pending := none })))
            (fun id => k false (st2.put l (.loop { q2 with state := .done, pending := some (.exit id) })))
            (k false (st2.put l (.loop { q2 with state := .done, pending := some .ret }))) e2) False) o2)
        False False False q.state)
      (fun _ => False) False e) o1) p.tmps p.params args) False False False p.state
def oneW (P : Program) (r : RecW) (cd : Bool) (nt : Nat) (T : Tr AV) (D : List ADef) (st : St) (o : Oper) (k : Tr AV → List ADef → St → Prop) : Prop :=
  aopW r.fl P T st o.op (fun v st' => splitF r.fl.ns v fun v => putW nt T o.dst v fun T => k T D st')
    (fun f args => r.call f args st fun v st' => splitF r.fl.ns v fun v => putW nt T o.dst v fun T => k T D st')
    (fun l args => yieldW r l args st fun b st' => putW nt T o.dst (.bool b) fun T => k T D st')
    (fun f args => False)
def opsW (P : Program) (r : RecW) (cd : Bool) (nt : Nat) (ops : List Oper) (k : Tr AV → List ADef → St → Prop) (l : List Oper) : Tr AV → List ADef → St → Prop :=
  List.rec (motive := fun _ => Tr AV → List ADef → St → Prop) (fun T D st => k T D st)
    (fun o _ ih T D st => obW (wantedA T ops o) fun b => ifp b (oneW P r cd nt T D st o fun T D st => ih T D st) (putW nt T o.dst undefA fun T => ih T D st)) l

def drawOpW (P : Program) (r : RecW) (base i m : Nat) (T : Tr AV) (st : St) (pend : List (Nat × Ob)) (o : Oper) (k : DRes → Prop) : Prop :=
  match kd o.op with
  | .pure | .read => aopW r.fl P T st o.op (fun v _ => splitF r.fl.ns v fun v => k ⟨v, st, none, pend⟩) (fun _ _ => False) (fun _ _ => False) (fun _ _ => False)
  | .fresh => freshW P st.vm T (Nat.add base i) o.op fun v ob => k ⟨v, st, some ob, (Nat.add base i, ob) :: pend⟩
  | .act =>
    let q := part2 base m pend
    aopW r.fl P T (addP st q.yes) o.op (fun v st' => splitF r.fl.ns v fun v => k ⟨v, st', none, q.no⟩) (fun f args => r.call f args (addP st q.yes) fun v st' => splitF r.fl.ns v fun v => k ⟨v, st', none, q.no⟩)
      (fun l args => yieldW r l args (addP st q.yes) fun b st' => k ⟨.bool b, st', none, q.no⟩) (fun _ _ => False)
def drawGoW (P : Program) (r : RecW) (nt base : Nat) (ops : List Oper) (bef : List Nat) (k : List DEnt → Mid → Prop) : Nat → List Oper → Tr AV → St → List (Nat × Ob) → List DEnt → Prop
  | _, [], T, st, pend, tr => k (tr ++ [⟨T, st, true, undefA, none, pend⟩]) ⟨T, [], addP st pend⟩
  | i, o :: l, T, st, pend, tr =>
    obW (nth i bef) fun m => obW (wantedA T ops o) fun wt =>
    ifp wt (drawOpW P r base i m T st pend o fun d => putW nt T o.dst d.v fun T' => drawGoW P r nt base ops bef k (Nat.succ i) l T' d.st d.pend (tr ++ [⟨T, st, true, d.v, d.ob, pend⟩]))
      (putW nt T o.dst undefA fun T' => drawGoW P r nt base ops bef k (Nat.succ i) l T' st pend (tr ++ [⟨T, st, false, undefA, none, pend⟩]))
def readSameW (P : Program) (sym : TypeId → Bool) (T : Tr AV) (st : St) (op : Op) (v : AV) : Prop := aopW ⟨false, sym, false, false, false⟩ P T st op (fun u _ => u = v) (fun _ _ => False) (fun _ _ => False) (fun _ _ => False)
def readsOk1W (P : Program) (sym : TypeId → Bool) (bef : List Nat) (rd : Nat) (o : Oper) (e : DEnt) : Nat → List Oper → List DEnt → Prop
  | a, x :: l, ea :: tr =>
    ifp (isActK (kd x.op))
      (ifp (Nat.ble (Nat.succ a) rd)
        (obW (nth rd bef) fun m => ifp (tb m a) (readsOk1W P sym bef rd o e (Nat.succ a) l tr) (readSameW P sym e.T ea.st o.op e.v ∧ readsOk1W P sym bef rd o e (Nat.succ a) l tr))
        (obW (nth a bef) fun m => ifp (tb m rd) (readsOk1W P sym bef rd o e (Nat.succ a) l tr) (obW tr.head? fun e2 => readSameW P sym e.T e2.st o.op e.v ∧ readsOk1W P sym bef rd o e (Nat.succ a) l tr)))
      (readsOk1W P sym bef rd o e (Nat.succ a) l tr)
  | _, [], _ => True
  | _, _, [] => False
def readsOkW (P : Program) (sym : TypeId → Bool) (bef : List Nat) (ops : List Oper) (tr : List DEnt) (k : Prop) : Nat → List Oper → List DEnt → Prop
  | i, o :: l, e :: t => ifp (and (isReadK (kd o.op)) e.wt) (readsOk1W P sym bef i o e 0 ops tr ∧ readsOkW P sym bef ops tr k (Nat.succ i) l t) (readsOkW P sym bef ops tr k (Nat.succ i) l t)
  | _, [], _ => k
  | _, _, [] => False
def drawW (P : Program) (r : RecW) (nt : Nat) (ops : List Oper) (T : Tr AV) (D : List ADef) (st : St) (k : Tr AV → List ADef → St → Prop) : Prop :=
  ifp (regOk ops) (drawGoW P r nt st.next ops (befs [] ops) (fun tr m => readsOkW P r.fl.sym (befs [] ops) ops tr (k m.tmps D m.st) 0 ops tr) 0 ops T ⟨st.heap, Nat.add st.next ops.length, st.vm, st.gl, st.rw⟩ [] []) False

/-! Code. -/
def firstReg : Code → Nat
  | .region id _ _ => id
  | .seq a b => firstReg a
  | .cond _ a _ => firstReg a
  | .block _ b | .loop b | .scope b => firstReg b
  | .rangeFunc _ _ _ b => firstReg b
  | _ => 0

/-- A loop over a function: what the function's call does, then what the loop was left with. The slots' values lie in the loop's block: 'T' is what they held ahead. -/
def rangeW (r : RecW) (gv : AV) (T : Tr AV) (D : List ADef) (l : Nat) (st : St) (Q : Out → Prop) : Prop :=
  match gv with
  | .func f first cap =>
    r.call f (first ++ [AV.yield l] ++ cap) st fun _ st' => obW (loopOf st' l) fun q => ifp (match q.state with | .busy => true | _ => false) False
      (Option.rec (Q ⟨.normal, T, D, st'.put l (.loop { q with state := .exhausted })⟩)
        (fun c => obW (jumpA c) fun e => Q ⟨e, T, D, st'.put l (.loop { q with state := .exhausted })⟩) q.pending)
  | _ => False
def flAt (K : Known) (r : RecW) (fn : FuncId) (id : Nat) : RecW := ⟨r.code, r.call, ⟨or K.eqs (K.eqAt fn id), K.sym, or (K.eqAt fn id) (K.neAt fn id), K.neAt fn id, K.ltAt fn id⟩⟩
def codeW (P : Program) (K : Known) (r : RecW) (ro : Option Nat) (fn : FuncId) (nt : Nat) (c : Code) (T : Tr AV) (D : List ADef) (st : St) (Q : Out → Prop) : Prop :=
  match c with
  | .skip | .label _ => Q ⟨.normal, T, D, st⟩
  | .seq a b => r.code ro fn nt a T D st fun o => Out.rec (fun e T D st => Ex.rec (r.code ro fn nt b T D st Q) (fun i => Q ⟨.exit i, T, D, st⟩) (Q ⟨.ret, T, D, st⟩) e) o
  | .cond x a b => obW (opd T x) fun v => (match v with | .bool b' => ifp b' (r.code ro fn nt a T D st Q) (r.code ro fn nt b T D st Q) | _ => False)
  | .block id b => r.code ro fn nt b T D st fun o => Out.rec (fun e T D st => Ex.rec (Q ⟨.normal, T, D, st⟩) (fun i => ifp (Nat.beq i id) (Q ⟨.normal, T, D, st⟩) (Q ⟨.exit i, T, D, st⟩)) (Q ⟨.ret, T, D, st⟩) e) o
  | .loop b => Option.rec
      (r.code ro fn nt b T D st fun o => Out.rec (fun e T D st => Ex.rec (r.code ro fn nt (.loop b) T D st Q) (fun i => Q ⟨.exit i, T, D, st⟩) (Q ⟨.ret, T, D, st⟩) e) o)
      (fun C => LoopOk P fn nt (.loop b) C ∧ C ro nt T D st Q) (K.lp fn (firstReg b))
  | .scope b => r.code ro fn nt b T D st Q
  | .exit id => Q ⟨.exit id, T, D, st⟩
  | .ret => Q ⟨.ret, T, D, st⟩
  | .region id ops draw => Bool.rec (opsW P (flAt K r fn id) ro.isNone nt ops.toList (fun T D st => Q ⟨.normal, T, D, st⟩) ops.toList T D st) (drawW P (flAt K r fn id) nt ops.toList T D st fun T D st => Q ⟨.normal, T, D, st⟩) draw
  | .rangeFunc g ps as body => Option.rec
      (obW (opd T g) fun gv => obW (loopPlace ro D st) fun q =>
        rangeW r gv T q.defers q.st.next (q.st.new (.loop { state := .ready, pending := none, fn, nt, tmps := T, params := ps.toList, assign := as, body, defers := q.d })) Q)
      (fun C => LoopOk P fn nt (.rangeFunc g ps as body) C ∧ C ro nt T D st Q) (K.lp fn (firstReg body))
  | _ => False

def collectedOnly : List ADef → St → Option St
  | [], st => some st
  | .call _ _ :: _, _ => none
  | .collected d :: l, st =>
    ob (st.heap.get d) fun o =>
    (match o with
     | .deferred true => collectedOnly l (st.put d (.deferred false))
     | _ => none)

def callW (P : Program) (r : RecW) (f : FuncId) (args : List AV) (st : St) (Q : AV → St → Prop) : Prop :=
  obW P.funcs[f]? fun fn =>
    ifp (fn.name == "runtime.NumGoroutine") False
     (obW fn.body fun c =>
      ifp (Nat.ble args.length fn.ntmps)
      (r.code none f fn.ntmps c (Tr.ofList .leaf 0 args) [] st fun o => Out.rec (fun e T D st => Ex.rec
          (obW (collectedOnly D st) fun st => obW (resultsA P T st fn.results.toList) fun vs => Q (oneOrTuple vs) st)
          (fun _ => False)
          (obW (collectedOnly D st) fun st => obW (resultsA P T st fn.results.toList) fun vs => Q (oneOrTuple vs) st) e) o)
      False)

def stepW (P : Program) (K : Known) (r : RecW) : RecW :=
  ⟨codeW P K r, fun f args st Q => Option.rec (callW P r f args st Q) (fun C => C args st Q) (K.tab f), ⟨K.eqs, K.sym, false, false, false⟩⟩
def runW (P : Program) (K : Known) (n : Nat) : RecW := Nat.rec ⟨fun _ _ _ _ _ _ _ _ => False, fun _ _ _ _ => False, ⟨false, fun _ => false, false, false, false⟩⟩ (fun _ r => stepW P K r) n

end Go.Det
