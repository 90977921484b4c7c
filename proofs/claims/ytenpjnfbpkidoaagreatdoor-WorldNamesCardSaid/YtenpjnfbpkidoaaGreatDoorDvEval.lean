/- The deterministic machine: code and calls. -/
import Derived.Test.YtenpjnfbpkidoaaGreatDoorDvCore
set_option linter.unusedVariables false
noncomputable section
namespace Go.Det

def jumpA : Code → Option Ex
  | .exit id => some (.exit id)
  | .ret => some .ret
  | _ => none

structure Place where
  d : Nat
  defers : List ADef
  st : St
def loopPlace (ro : Option Nat) (D : List ADef) (st : St) : Option Place :=
  match ro with
  | none => some ⟨st.next, .collected st.next :: D, st.new (.deferred true)⟩
  | some l => om (fun p => ⟨p.defers, D, st⟩) (loopOf st l)

/-- A loop over a function, behind the making of its blocks: st.next names the loop's. -/
def rangeA (r : Rec) (gv : AV) (T : Tr AV) (D : List ADef) (l : Nat) (st : St) : Option Out :=
  match gv with
  | .func f first cap =>
    ob (r.call f (first ++ [AV.yield l] ++ cap) st) fun p =>
    ob (loopOf p.2 l) fun q =>
    (match q.state with
     | .busy => none
     | _ =>
       (match q.pending with
        | none => some ⟨.normal, T, D, p.2.put l (.loop { q with state := .exhausted })⟩
        | some c => om (fun e => ⟨e, T, D, p.2.put l (.loop { q with state := .exhausted })⟩) (jumpA c)))
  | _ => none

def Ex.thenO (e : Ex) (o : Out) (k : Option Out) : Option Out := Ex.rec k (fun _ => some o) (some o) e
def Mid.out (m : Mid) : Out := Mid.rec (fun T D st => ⟨.normal, T, D, st⟩) m

def codeStep (P : Program) (r : Rec) (ro : Option Nat) (fn : FuncId) (nt : Nat) (c : Code) (T : Tr AV) (D : List ADef) (st : St) : Option Out :=
  match c with
  | .skip => some ⟨.normal, T, D, st⟩
  | .label _ => some ⟨.normal, T, D, st⟩
  | .seq a b => ob (r.code ro fn nt a T D st) fun o => Out.rec (fun e T D st => e.thenO ⟨e, T, D, st⟩ (r.code ro fn nt b T D st)) o
  | .cond x a b => ob (opd T x) fun v => (match v with | .bool b' => Bool.rec (r.code ro fn nt b T D st) (r.code ro fn nt a T D st) b' | _ => none)
  | .block id b => om (fun o => Out.rec (fun e T D st => Ex.rec ⟨.normal, T, D, st⟩ (fun i => ifb (Nat.beq i id) ⟨.normal, T, D, st⟩ ⟨.exit i, T, D, st⟩) ⟨.ret, T, D, st⟩ e) o) (r.code ro fn nt b T D st)
  | .loop b => ob (r.code ro fn nt b T D st) fun o => Out.rec (fun e T D st => e.thenO ⟨e, T, D, st⟩ (r.code ro fn nt (.loop b) T D st)) o
  | .scope b => r.code ro fn nt b T D st
  | .exit id => some ⟨.exit id, T, D, st⟩
  | .ret => some ⟨.ret, T, D, st⟩
  | .region _ ops draw => om Mid.out (Bool.rec (opsRun P r ro.isNone nt ops.toList ops.toList T D st) (drawRun P r nt ops.toList T D st) draw)
  | .rangeFunc g ps as body =>
    ob (opd T g) fun gv => ob (loopPlace ro D st) fun q =>
    rangeA r gv T q.defers q.st.next (q.st.new (.loop { state := .ready, pending := none, fn, nt, tmps := T, params := ps.toList, assign := as, body, defers := q.d }))
  | _ => none

def resultA (P : Program) (T : Tr AV) (st : St) : ResultVar → Option AV
  | .tmp t => T.get t
  | .cell a t => ob (T.get a) fun v => (match v with | .ptr b o => loadA P st t b o | _ => none)
def resultsA (P : Program) (T : Tr AV) (st : St) : List ResultVar → Option (List AV)
  | [] => some []
  | x :: l => ob (resultA P T st x) fun v => om (v :: ·) (resultsA P T st l)

def defersA (r : Rec) : List ADef → St → Option St
  | [], st => some st
  | .call f args :: l, st => ob (r.dcall f args st) fun p => defersA r l p.2
  | .collected d :: l, st =>
    ob (st.heap.get d) fun o =>
    (match o with
     | .deferred true => defersA r l (st.put d (.deferred false))
     | _ => none)

def oneOrTuple : List AV → AV
  | [v] => v
  | vs => .tuple vs

def callStep (P : Program) (r : Rec) (f : FuncId) (args : List AV) (st : St) : Option (AV × St) :=
  ob P.funcs[f]? fun fn =>
    ifb (fn.name == "runtime.NumGoroutine") none
     (ob fn.body fun c =>
      ifb (Nat.ble args.length fn.ntmps)
      (ob (r.code none f fn.ntmps c (Tr.ofList .leaf 0 args) [] st) fun o =>
       (match o.ex with
        | .exit _ => none
        | _ =>
          ob (defersA r o.defers o.st) fun st =>
          om (fun vs => (oneOrTuple vs, st)) (resultsA P o.tmps st fn.results.toList)))
      none)

def recStep (P : Program) (r : Rec) : Rec := ⟨codeStep P r, callStep P r, callStep P r⟩
def recFail : Rec := ⟨fun _ _ _ _ _ _ _ => none, fun _ _ _ => none, fun _ _ _ => none⟩
def run (P : Program) (n : Nat) : Rec := Nat.rec recFail (fun _ r => recStep P r) n

def st0 : St := { heap := .leaf, next := 0 }
def answersTrue (r : Option (AV × St)) : Bool := match r with | some (.bool true, _) => true | _ => false

end Go.Det
