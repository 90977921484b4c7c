/- Calls, and the whole machine. -/
import Derived.Test.YtenpjnfbpkidoaaGreatDoorDvRun
set_option linter.unusedVariables false
set_option linter.unusedSimpArgs false
namespace Go.Det
variable {P : Program}

theorem ofList_get {α : Type} : ∀ (l : List α) (T : Tr α) (k t : Nat), (Tr.ofList T k l).get t = if k ≤ t ∧ t < k + l.length then l[t - k]? else T.get t
  | [], T, k, t => by
    rw [Tr.ofList, if_neg (by simp only [List.length_nil]; omega)]
  | x :: l, T, k, t => by
    rw [Tr.ofList, ofList_get l, Tr.get_set]
    by_cases e : t = k
    · subst e
      rw [if_neg (by omega), if_pos rfl, if_pos (by simp)]
      simp
    · rw [if_neg e]
      by_cases h : k + 1 ≤ t ∧ t < k + 1 + l.length
      · rw [if_pos h, if_pos (by simp; omega)]
        rw [show t - k = (t - (k + 1)) + 1 by omega]
        simp
      · rw [if_neg h, if_neg (by simp; omega)]

theorem args_TR {ρ : Names} {args : List AV} {args' : List Value} (h : VRs ρ args args') (nt : Nat) : TR ρ nt (Tr.ofList .leaf 0 args) ((⟨args'⟩ : Array Value) ++ Array.replicate (nt - (⟨args'⟩ : Array Value).size) Go.undef) := by
  refine ⟨by simp; omega, fun t v ht => ?_⟩
  rw [ofList_get] at ht
  split at ht
  · rename_i hlt
    obtain ⟨v', h1, h2⟩ := h.get ht
    refine ⟨v', ?_, h2⟩
    have hl := h.length
    rw [Array.getElem?_append]
    simp only [Nat.sub_zero] at h1
    rw [if_pos (by simp; omega)]
    simpa using h1
  · simp [Tr.get] at ht

/-- A frame that hands back, its deferred calls ahead. -/
def bk (b : Frame) (tm : Array Value) (df : List Deferred) (todo : List Item) : Frame := { on b tm df todo with mode := .returning }

theorem st_ret {b : Frame} (hb : b.roundOf = none) {tm : Array Value} {df : List Deferred} {k : List Item} {cs : List Frame} {w : World} :
    step P (lone (on b tm df (.code .ret :: k)) cs w) = .next (lone (bk b tm df (.code .ret :: k)) cs w) := step_lone_go (by simp [stepG, stepG.exec, on, bk, hb])
theorem st_end {b : Frame} (hb : b.roundOf = none) {tm : Array Value} {df : List Deferred} {cs : List Frame} {w : World} :
    step P (lone (on b tm df []) cs w) = .next (lone (bk b tm df []) cs w) := step_lone_go (by simp [stepG, stepG.exec, on, bk, hb])

theorem defers_sound {r : Rec} (hk : CallOkD P r.dcall) {b : Frame} {tm : Array Value} {todo : List Item} {cs : List Frame} : ∀ {D : List ADef} {st st2 : St}, defersA r D st = some st2 → ∀ {ρ : Names} {w : World} {df : List Deferred}, HR ρ st w → DRs ρ D df →
    ∃ ρ' w', Goes ρ st w ρ' st2 w' ∧ HR ρ' st2 w' ∧ Steps P (lone (bk b tm df todo) cs w) (lone (bk b tm [] todo) cs w')
  | [], st, st2, h, ρ, w, df, hH, hD => by
    rw [defersA] at h
    injection h with h; subst h
    cases hD
    exact ⟨ρ, w, Goes.refl, hH, Steps.refl _ _⟩
  | .call f args :: D, st, st2, h, ρ, w, df, hH, hD => by
    rw [defersA, ob_some] at h
    obtain ⟨p, h1, h2⟩ := h
    cases hD with
    | cons hd ht =>
      rename_i d' df'
      cases hd with
      | call hv =>
        rename_i a c
        obtain ⟨hce, hcall⟩ := hk _ _ _ _ _ (show r.dcall f args st = some (p.1, p.2) from h1) .deferred
        obtain ⟨ρ1, w1, v1, fr1, G1, H1, V1, s1, l1⟩ := hcall ρ w _ (bk b tm df' todo :: cs) hH hv
        obtain ⟨ρ2, w2, G2, H2, s2⟩ := defers_sound hk (b := b) (tm := tm) (todo := todo) (cs := cs) h2 H1 (ht.mono G1.le)
        have hinv : (invoke (.fn (.func f) ⟨c⟩) ⟨a⟩).run P w = .ok (.enter f ⟨a ++ c⟩) w := by
          rw [← hce]; simp [invoke]
        have hst : step P (lone (bk b tm ({ target := .fn (.func f) ⟨c⟩, args := ⟨a⟩ } :: df') todo) cs w) = .next (lone (Frame.enter P f ⟨a ++ c⟩ .deferred) (bk b tm df' todo :: cs) w) := by
          refine step_lone_go ?_
          simp [stepG, bk, on, unwind, callDeferred, hinv]
        exact ⟨ρ2, w2, G1.trans G2, H2, .head hst (s1.trans (.head (st_leave_deferred l1 rfl) s2))⟩
  | .collected d :: D, st, st2, h, ρ, w, df, hH, hD => by
    rw [defersA, ob_some] at h
    obtain ⟨o, h1, h2⟩ := h
    split at h2
    rotate_left
    · cases h2
    cases hD with
    | cons hd ht =>
      rename_i d' df'
      cases hd with
      | collected hL =>
        rename_i L
        obtain ⟨L', hL', hO⟩ := hH.obj _ _ h1
        obtain rfl : L' = L := by rw [hL] at hL'; injection hL' with q; exact q.symm
        have hO' : w.heap[L'.blk]? = some (.deferred (some [])) := hO
        obtain ⟨H1, G1⟩ := hH.put h1 hL (.deferred false) (.deferred none) rfl _ rfl
        obtain ⟨ρ2, w2, G2, H2, s2⟩ := defers_sound hk (b := b) (tm := tm) (todo := todo) (cs := cs) h2 H1 ht
        have htake : (Instr.takeDeferred L'.blk).run P w = .ok [] { w with heap := w.heap.setIfInBounds L'.blk (.deferred none) } := by
          simp [Instr.takeDeferred, getObj, setObj, Sem.run, hO']
        have hst : step P (lone (bk b tm ({ target := .collected L'.blk, args := #[] } :: df') todo) cs w) = .next (lone (bk b tm df' todo) cs { w with heap := w.heap.setIfInBounds L'.blk (.deferred none) }) := by
          refine step_lone_go ?_
          simp only [stepG, bk, on, unwind, Sem.runT_eq, htake, GStep.bare_after]
          simp [GStep.bare]
        exact ⟨ρ2, w2, G1.trans G2, H2, .head hst s2⟩

def resV (tm : Array Value) : ResultVar → Sem Value
  | .tmp t => pure (tm.getD t Go.undef)
  | .cell a t => do loadVar t (← asAddr (tm.getD a Go.undef))
theorem results_sound {nt : Nat} {T : Tr AV} {st : St} {ρ : Names} {w : World} {tm : Array Value} (hH : HR ρ st w) (hT : TR ρ nt T tm) : ∀ {l : List ResultVar} {vs : List AV}, resultsA P T st l = some vs →
    ∃ vs' : List Value, (l.mapM (resV tm)).run P w = .ok vs' w ∧ VRs ρ vs vs'
  | [], vs, h => by
    rw [resultsA] at h
    injection h with h; subst h
    exact ⟨[], by simp, .nil⟩
  | x :: l, vs, h => by
    rw [resultsA, ob_some] at h
    obtain ⟨v, h1, h2⟩ := h
    rw [om_some] at h2
    obtain ⟨vs1, h2, rfl⟩ := h2
    obtain ⟨vs', k1, k2⟩ := results_sound hH hT h2
    have hx : ∃ v', (resV tm x).run P w = .ok v' w ∧ VR ρ v v' := by
      cases x with
      | tmp t =>
        obtain ⟨v', q1, q2⟩ := hT.2 t v h1
        exact ⟨v', by simp [resV, q1], q2⟩
      | cell a t =>
        rw [resultA, ob_some] at h1
        obtain ⟨pv, h3, h4⟩ := h1
        obtain ⟨p', q1, q2⟩ := hT.2 a pv h3
        split at h4
        · rename_i bb o
          cases q2 with
          | ptr hL =>
            obtain ⟨v', q3, q4⟩ := load_sound (P := P) hH h4 hL
            exact ⟨v', by simp [resV, q1, asAddr, q3], q4⟩
        · cases h4
    obtain ⟨v', q1, q2⟩ := hx
    refine ⟨v' :: vs', ?_, .cons q2 k2⟩
    rw [List.mapM_cons, Sem.run_bind, q1, Result.andThen_ok, Sem.run_bind, k1]
    rfl

theorem oneOrTuple_sound {ρ : Names} {vs : List AV} {vs' : List Value} (h : VRs ρ vs vs') : VR ρ (oneOrTuple vs) (if h : (⟨vs'⟩ : Array Value).size = 1 then (⟨vs'⟩ : Array Value)[0] else .tuple ⟨vs'⟩) := by
  cases h with
  | nil => exact .tuple .nil
  | cons hv t =>
    cases t with
    | nil => exact hv
    | cons hv' t' =>
      rw [dif_neg (by simp)]
      exact .tuple (.cons hv (.cons hv' t'))

theorem CallOkD.normal {call : FuncId → List AV → St → Option (AV × St)} (h : CallOkD P call) : CallOk P call := fun f args st v st' hr => h f args st v st' hr .normal

theorem call_sound {r : Rec} (hc : CodeOk P r) (hk : CallOkD P r.dcall) : CallOkD P (callStep P r) := by
  intro f args st v st' h kind
  change callStep P r f args st = some (v, st') at h
  unfold callStep at h
  simp only [ob_some, ifb_none, ifb_none'] at h
  obtain ⟨fn, h1, h2, c, h3, h4, o, h5, h6⟩ := h
  have hen : ∀ (X : Array Value) (w : World), (callFunc f X).run P w = .ok (.enter f X) w := by
    intro X w
    have h2' : ¬ fn.name = "runtime.NumGoroutine" := by simpa using h2
    simp [callFunc, h1, h2', h3]
  refine ⟨hen, fun ρ w args' cs hH hA => ?_⟩
  have hfr : Frame.enter P f ⟨args'⟩ kind = on (Frame.enter P f ⟨args'⟩ kind) ((⟨args'⟩ : Array Value) ++ Array.replicate (fn.ntmps - (⟨args'⟩ : Array Value).size) Go.undef) [] [.code c] := by
    simp [Frame.enter, on, h1, h3]
  generalize hb : Frame.enter P f ⟨args'⟩ kind = b at hfr
  have hbf : b.fn = f := by rw [← hb]; rfl
  have hbk : b.kind = kind := by rw [← hb]; rfl
  have hbr : b.roundOf = none := by rw [← hb]; rfl
  obtain ⟨ρ1, w1, tm1, df1, G1, H1, T1, D1, A1⟩ := hc _ _ _ _ _ _ _ _ h5 ρ w _ [] b [] cs hH (args_TR hA fn.ntmps) .nil hbf (by rw [hbr]; exact .none)
  rw [← hfr] at A1
  have fin : ∀ todo : List Item, Steps P (lone b cs w) (lone (bk b tm1 df1 todo) cs w1) → (∃ st2, defersA r o.defers o.st = some st2 ∧ ∃ vs, resultsA P o.tmps st2 fn.results.toList = some vs ∧ (oneOrTuple vs, st2) = (v, st')) →
      ∃ ρ' w' v' fr', Goes ρ st w ρ' st' w' ∧ HR ρ' st' w' ∧ VR ρ' v v' ∧ Steps P (lone b cs w) (lone fr' cs w') ∧ Leaves P f kind fr' v' w' := by
    rintro todo hs ⟨st2, k1, vs, k2, k3⟩
    injection k3 with k3 k4
    subst k3; subst k4
    obtain ⟨ρ2, w2, G2, H2, s2⟩ := defers_sound hk (b := b) (tm := tm1) (todo := todo) (cs := cs) k1 H1 D1
    have T2 := T1.mono G2.le
    obtain ⟨vs', q1, q2⟩ := results_sound (P := P) H2 T2 k2
    refine ⟨ρ2, w2, _, bk b tm1 [] todo, G1.trans G2, H2, oneOrTuple_sound q2, hs.trans s2, hbf, hbk, rfl, rfl, fn, h1, ?_⟩
    show (results fn tm1).run P w2 = _
    have e : results fn tm1 = (do let vs ← fn.results.mapM (resV tm1); pure (if h : vs.size = 1 then vs[0] else .tuple vs)) := rfl
    rw [e, Array.mapM_eq_mapM_toList, Sem.run_bind]
    have : (List.toArray <$> List.mapM (resV tm1) fn.results.toList).run P w2 = .ok (⟨vs'⟩ : Array Value) w2 := by
      rw [Sem.run_map, q1]; rfl
    rw [this]
    rfl
  split at h6
  · cases h6
  rename_i hne
  simp only [ob_some, om_some] at h6
  obtain ⟨e1, t1, d1, s1⟩ := o
  cases e1 with
  | normal => exact fin [] (Steps.trans A1 (.one (st_end hbr))) h6
  | exit id => exact absurd rfl (hne id)
  | ret =>
    obtain ⟨k2, A2⟩ := A1
    exact fin _ (A2.trans (.one (st_ret hbr))) h6

theorem run_soundD (hm : P.follows .mixedOrders = true) : ∀ n, CodeOk P (run P n) ∧ CallOkD P (run P n).call ∧ CallOkD P (run P n).dcall
  | 0 => by
    refine ⟨?_, ?_, ?_⟩
    · intro ro fn nt c T D st o h
      change none = some _ at h
      cases h
    · intro f args st v st' h
      change none = some _ at h
      cases h
    · intro f args st v st' h
      change none = some _ at h
      cases h
  | n + 1 => by
    obtain ⟨h1, h2, h3⟩ := run_soundD hm n
    exact ⟨code_sound hm h1 h2.normal, call_sound h1 h3, call_sound h1 h3⟩
theorem run_sound (hm : P.follows .mixedOrders = true) (n : Nat) : CodeOk P (run P n) ∧ CallOk P (run P n).call :=
  ⟨(run_soundD hm n).1, (run_soundD hm n).2.1.normal⟩

/-! Calls whose meaning is known. -/
abbrev Tab := FuncId → Option (List AV → St → Option (AV × St))
def TabOk (P : Program) (tab : Tab) : Prop := ∀ f F, tab f = some F → ∀ args st v st', F args st = some (v, st') → CallS P f args st v st'
noncomputable def callTab (tab : Tab) (P : Program) (r : Rec) (f : FuncId) (args : List AV) (st : St) : Option (AV × St) := Option.rec (callStep P r f args st) (fun F => F args st) (tab f)
noncomputable def runTab (tab : Tab) (P : Program) (n : Nat) : Rec := Nat.rec recFail (fun _ r => ⟨codeStep P r, callTab tab P r, callStep P r⟩) n
theorem runTab_sound {tab : Tab} (ht : TabOk P tab) (hm : P.follows .mixedOrders = true) : ∀ n, CodeOk P (runTab tab P n) ∧ CallOk P (runTab tab P n).call ∧ CallOkD P (runTab tab P n).dcall
  | 0 => by
    refine ⟨?_, ?_, ?_⟩
    · intro ro fn nt c T D st o h
      change none = some _ at h
      cases h
    · intro f args st v st' h
      change none = some _ at h
      cases h
    · intro f args st v st' h
      change none = some _ at h
      cases h
  | n + 1 => by
    obtain ⟨h1, h2, h3⟩ := runTab_sound ht hm n
    refine ⟨code_sound hm h1 h2, ?_, call_sound h1 h3⟩
    intro f args st v st' h
    change callTab tab P (runTab tab P n) f args st = some (v, st') at h
    unfold callTab at h
    cases hf : tab f with
    | none => rw [hf] at h; exact (call_sound h1 h3).normal f args st v st' h
    | some F => rw [hf] at h; exact ht f F hf args st v st' h

end Go.Det
