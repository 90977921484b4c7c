/- One operation with its calls; a region in the order of its text. -/
import Derived.Test.YtenpjnfbpkidoaaGreatDoorDvMach
set_option linter.unusedVariables false
set_option linter.unusedSimpArgs false
namespace Go.Det
variable {P : Program} {ρ : Names}

theorem loopOf_some {st : St} {b : Nat} {l : ALoop} : loopOf st b = some l ↔ st.heap.get b = some (.loop l) := by
  unfold loopOf
  rw [ob_some]
  constructor
  · rintro ⟨o, h, h'⟩
    cases o <;> simp at h'
    subst h'; exact h
  · intro h; exact ⟨_, h, rfl⟩
theorem loop_at {st : St} {w : World} (hH : HR ρ st w) {b : Nat} {l : ALoop} (h : loopOf st b = some l) {L : Loc} (hL : ρ b = some L) :
    ∃ (tm : Array Value) (d : Loc), w.heap[L.blk]? = some (.loop { state := l.state, pending := l.pending, fn := l.fn, tmps := tm, params := ⟨l.params⟩, assign := l.assign, body := l.body, defers := d.blk }) ∧ TR ρ l.nt l.tmps tm ∧ ρ l.defers = some d := by
  obtain ⟨L', hL', hO⟩ := hH.obj _ _ (loopOf_some.1 h)
  obtain rfl : L' = L := by rw [hL] at hL'; injection hL' with h; exact h.symm
  exact hO
/-- A loop's state is changed. -/
theorem put_loop {st : St} {w : World} (hH : HR ρ st w) {b : Nat} {l : ALoop} (h : loopOf st b = some l) {L : Loc} (hL : ρ b = some L) (s : LoopState) (p : Option Code) :
    ∃ (tm : Array Value) (d : Loc), w.heap[L.blk]? = some (.loop { state := l.state, pending := l.pending, fn := l.fn, tmps := tm, params := ⟨l.params⟩, assign := l.assign, body := l.body, defers := d.blk }) ∧ TR ρ l.nt l.tmps tm ∧ ρ l.defers = some d ∧
    HR ρ (st.put b (.loop { l with state := s, pending := p })) { w with heap := w.heap.setIfInBounds L.blk (.loop { state := s, pending := p, fn := l.fn, tmps := tm, params := ⟨l.params⟩, assign := l.assign, body := l.body, defers := d.blk }) } ∧
    Goes ρ st w ρ (st.put b (.loop { l with state := s, pending := p })) { w with heap := w.heap.setIfInBounds L.blk (.loop { state := s, pending := p, fn := l.fn, tmps := tm, params := ⟨l.params⟩, assign := l.assign, body := l.body, defers := d.blk }) } := by
  obtain ⟨tm, d, h1, h2, h3⟩ := loop_at hH h hL
  have := hH.put (loopOf_some.1 h) hL (.loop { l with state := s, pending := p }) (.loop { state := s, pending := p, fn := l.fn, tmps := tm, params := ⟨l.params⟩, assign := l.assign, body := l.body, defers := d.blk }) ⟨tm, d, rfl, h2, h3⟩ _ rfl
  exact ⟨tm, d, h1, h2, h3, this.1, this.2⟩

theorem setAll_sound {nt : Nat} : ∀ {ps : List Tmp} {vs : List AV} {vs' : List Value} {T T' : Tr AV} {tm : Array Value}, setAll nt T ps vs = some T' → TR ρ nt T tm → VRs ρ vs vs' →
    vs'.length = ps.length ∧ TR ρ nt T' ((ps.zip vs').foldl (fun tm (p : Nat × Value) => tm.setIfInBounds p.1 p.2) tm)
  | [], [], _, T, T', tm, h, hT, .nil => by simp only [setAll] at h; injection h with h; subst h; exact ⟨rfl, hT⟩
  | [], _ :: _, _, T, T', tm, h, hT, _ => by simp [setAll] at h
  | _ :: _, [], _, T, T', tm, h, hT, _ => by simp [setAll] at h
  | p :: ps, v :: vs, _, T, T', tm, h, hT, .cons hv t => by
    simp only [setAll, ifb_none] at h
    obtain ⟨h1, h2⟩ := h
    have := putDst_sound (dst := some p) (show putDst nt T (some p) v = some (T.set p v) by show ifb _ _ _ = _; rw [h1]; rfl) hT hv
    obtain ⟨k1, k2⟩ := setAll_sound h2 this t
    exact ⟨by simp [k1], k2⟩

theorem isNil_eq {α : Type} {l : List α} (h : isNil l = true) : l = [] := by cases l <;> simp_all [isNil]

/-- A round, from the call of the yield function to its answer. -/
theorem yield_sound {r : Rec} (hc : CodeOk P r) {l : Nat} {args : List AV} {st st' : St} {v : AV} (h : yieldA r l args st = some (v, st')) {w : World} (hH : HR ρ st w) {L : Loc} (hL : ρ l = some L) {args' : List Value} (ha : VRs ρ args args') :
    ∃ (f : FuncId) (tmps : Array Value) (as body : Code), (Instr.yield L.blk ⟨args'⟩).run P w = .ok (.round L.blk f tmps as body) w ∧
      ∀ (c : Frame) (cs : List Frame), ∃ ρ' w' v', Goes ρ st w ρ' st' w' ∧ HR ρ' st' w' ∧ VR ρ' v v' ∧
        Steps P (lone (Frame.round L.blk f tmps as body .normal) (c :: cs) w) (lone (c.finish v') cs w') := by
  simp only [yieldA, ob_some] at h
  obtain ⟨p, h1, T, h2, o1, h3, h⟩ := h
  obtain ⟨tm, d, k1, k2, k3⟩ := loop_at hH h1 hL
  obtain ⟨k4, k5⟩ := setAll_sound h2 k2 ha
  refine ⟨p.fn, ((p.params.zip args').foldl (fun tm (q : Nat × Value) => tm.setIfInBounds q.1 q.2) tm), p.assign, p.body, ?_, ?_⟩
  · simp [Instr.yield, Instr.getLoop, getObj, Sem.run, k1, k4]
  intro c cs
  let b : Frame := Frame.round L.blk p.fn ((p.params.zip args').foldl (fun tm (q : Nat × Value) => tm.setIfInBounds q.1 q.2) tm) p.assign p.body .normal
  have hstart : Frame.round L.blk p.fn ((p.params.zip args').foldl (fun tm (q : Nat × Value) => tm.setIfInBounds q.1 q.2) tm) p.assign p.body .normal = on b ((p.params.zip args').foldl (fun tm (q : Nat × Value) => tm.setIfInBounds q.1 q.2) tm) [] [.code p.assign, .beginRound, .code p.body] := rfl
  obtain ⟨ρ1, w1, tm1, df1, g1, H1, T1, D1, A1⟩ := hc _ _ _ _ _ _ _ _ h3 ρ w _ [] b [.beginRound, .code p.body] (c :: cs) hH k5 .nil rfl (.some hL)
  rw [hstart]
  split at h
  rotate_left
  · cases h
  rename_i he1
  rw [he1] at A1
  simp only [ob_some] at h
  obtain ⟨q, h4, h⟩ := h
  split at h
  rotate_left
  · cases h
  rename_i hq
  simp only [ob_some, ifb_none, om_some] at h
  obtain ⟨o2, h5, hn, q2, h6, h7⟩ := h
  have hL1 := g1.le _ _ hL
  obtain ⟨tm2, d2, m1, m2, m3, H2, G2⟩ := put_loop H1 h4 hL1 .busy q.pending
  -- beginRound
  have hbegin : step P (lone (on b tm1 df1 [.beginRound, .code p.body]) (c :: cs) w1) = .next (lone (on b tm1 df1 [.code p.body]) (c :: cs)
      { w1 with heap := w1.heap.setIfInBounds L.blk (.loop { state := .busy, pending := q.pending, fn := q.fn, tmps := tm2, params := ⟨q.params⟩, assign := q.assign, body := q.body, defers := d2.blk }) }) := by
    refine step_lone_go ?_
    have hrun : (do b.roundOf.elim (stuck "beginRound: no round") Instr.beginRound; pure .skip : Sem Next).run P w1 = .ok .skip { w1 with heap := w1.heap.setIfInBounds L.blk (.loop { state := .busy, pending := q.pending, fn := q.fn, tmps := tm2, params := ⟨q.params⟩, assign := q.assign, body := q.body, defers := d2.blk }) } := by
      simp [b, Frame.round, Instr.beginRound, Instr.getLoop, getObj, setObj, Sem.run, m1, hq]
    have := ap_skip (fr := on b tm1 df1 [.beginRound, .code p.body]) (cs := c :: cs) hrun
    simpa [stepG, stepG.exec, on, Frame.finish] using this
  obtain ⟨ρ3, w3, tm3, df3, g3, H3, T3, D3, A3⟩ := hc _ _ _ _ _ _ _ _ h5 ρ1 _ tm1 df1 b [] (c :: cs) H2 T1 D1 rfl (.some hL1)
  have hd3 : df3 = [] := by
    have := isNil_eq hn
    rw [this] at D3; cases D3; rfl
  subst hd3
  have hL3 := g3.le _ _ hL1
  have G13 := (g1.trans G2).trans g3
  have toBody := Steps.trans A1 (.one hbegin)
  -- the end of the round
  have fin : ∀ (jump : Option Code) (k2 : List Item), 
      ((stepG P true { frame := on b tm3 [] k2, callers := c :: cs, status := .running, dying := none } w3) =
        (let (r, es) := (Instr.endRound L.blk jump).runT P w3 #[]
         GStep.after (seen P (on b tm3 [] k2).fn es) <| match r with
          | .ok v w => doReturn P true (on b tm3 [] k2) (c :: cs) none v w
          | .halt _ w => .ended (.stuck "range over a function: no such loop" ((on b tm3 [] k2).pos P)) w)) →
      ∃ w', HR ρ3 (o2.st.put l (.loop { q2 with state := if jump.isNone then .ready else .done, pending := jump })) w' ∧ Goes ρ3 o2.st w3 ρ3 (o2.st.put l (.loop { q2 with state := if jump.isNone then .ready else .done, pending := jump })) w' ∧
        step P (lone (on b tm3 [] k2) (c :: cs) w3) = .next (lone (c.finish (.bool jump.isNone)) cs w') := by
    intro jump k2 hs
    obtain ⟨tm4, d4, n1, n2, n3, H4, G4⟩ := put_loop H3 h6 hL3 (if jump.isNone then .ready else .done) jump
    refine ⟨_, H4, G4, step_lone_go ?_⟩
    rw [hs]
    have hrun : (Instr.endRound L.blk jump).run P w3 = .ok (.bool jump.isNone) { w3 with heap := w3.heap.setIfInBounds L.blk (.loop { state := if jump.isNone then .ready else .done, pending := jump, fn := q2.fn, tmps := tm4, params := ⟨q2.params⟩, assign := q2.assign, body := q2.body, defers := d4.blk }) } := by
      simp [Instr.endRound, Instr.getLoop, getObj, setObj, Sem.run, n1]
    simp only [Sem.runT_eq, hrun]
    simp [doReturn, on, b, Frame.round]
  cases he : o2.ex with
  | normal =>
    rw [he] at A3 h7
    injection h7 with e1 e2; subst e1; subst e2
    obtain ⟨w', a1, a2, a3⟩ := fin none [] rfl
    exact ⟨ρ3, w', .bool true, G13.trans a2, a1, .bool _, toBody.trans (Steps.trans A3 (.one a3))⟩
  | exit id =>
    rw [he] at A3 h7
    injection h7 with e1 e2; subst e1; subst e2
    obtain ⟨k2, x1, x2⟩ := A3
    have x1' : exitTo id k2 = none := by rw [x1]; rfl
    obtain ⟨w', a1, a2, a3⟩ := fin (some (.exit id)) (.code (.exit id) :: k2) (by simp only [stepG, stepG.exec, on, x1', Option.elim]; rfl)
    exact ⟨ρ3, w', .bool false, G13.trans a2, a1, .bool _, toBody.trans (Steps.trans x2 (.one a3))⟩
  | ret =>
    rw [he] at A3 h7
    injection h7 with e1 e2; subst e1; subst e2
    obtain ⟨k2, x2⟩ := A3
    obtain ⟨w', a1, a2, a3⟩ := fin (some .ret) (.code .ret :: k2) rfl
    exact ⟨ρ3, w', .bool false, G13.trans a2, a1, .bool _, toBody.trans (Steps.trans x2 (.one a3))⟩


/-- One operation of a region, with its calls. -/
theorem one_sound {r : Rec} (hc : CodeOk P r) (hk : CallOk P r.call) {cd : Bool} {nt : Nat} {T : Tr AV} {D : List ADef} {st : St} {o : Oper} {m : Mid} (h : one P r cd nt T D st o = some m) {w : World} {tm : Array Value} {df : List Deferred}
    (hH : HR ρ st w) (hT : TR ρ nt T tm) (hD : DRs ρ D df) {b : Frame} (hb : cd = true → b.roundOf = none) {ops : Array Oper} {i : Nat} (ho : ops[i]? = some o) (hw : Region.wanted o (yielded ops tm) = true) (rest : List Nat) (k : List Item) (cs : List Frame) :
    ∃ ρ' w' tm' df', Goes ρ st w ρ' m.st w' ∧ HR ρ' m.st w' ∧ TR ρ' nt m.tmps tm' ∧ DRs ρ' m.defers df' ∧
      Steps P (lone (on b tm df (.inRegion ops (i :: rest) :: k)) cs w) (lone (on b tm' df' (.inRegion ops rest :: k)) cs w') := by
  simp only [one, ob_some] at h
  obtain ⟨x, h1, h2⟩ := h
  have hA := aopB_sound (P := P) (evT_sound hT) hH h1
  have hfin := fun v => finish_on b tm df ops i rest k v
  simp only [ho, Option.bind_some] at hfin
  have notDefer : (∀ f as, x ≠ .dfr f as) → b.roundOf = none ∨ ∀ c, o.op ≠ .defer c := fun hx => .inr fun c hop => by
    rw [hop, aopB_defer] at h1
    simp only [aop] at h1
    split at h1
    · simp only [ob_some] at h1
      obtain ⟨r1, _, h4⟩ := h1
      split at h4
      · injection h4 with h4; exact hx _ _ h4.symm
      · cases h4
    · cases h1
  cases x with
  | val v st' =>
    have hg := stepG_on (P := P) (b := b) (df := df) (k := k) (cs := cs) (w := w) (rest := rest) ho hw (notDefer (fun _ _ => by simp))
    change om (fun T => (⟨T, D, st'⟩ : Mid)) (putDst nt T o.dst v) = some m at h2
    rw [om_some] at h2
    obtain ⟨T', h3, rfl⟩ := h2
    obtain ⟨ρ', w', v', hr, g, H, V⟩ := hA
    refine ⟨ρ', w', putC tm o.dst v', df, g, H, putDst_sound h3 (hT.mono g.le) V, hD.mono g.le, .one (step_lone_go ?_)⟩
    rw [hg, ← hfin]
    rcases hr with hr | ⟨hr, rfl⟩
    · exact ap_value hr
    · exact ap_skip hr
  | call f args =>
    have hg := stepG_on (P := P) (b := b) (df := df) (k := k) (cs := cs) (w := w) (rest := rest) ho hw (notDefer (fun _ _ => by simp))
    change (ob (r.call f args st) fun p => om (fun T => (⟨T, D, p.2⟩ : Mid)) (putDst nt T o.dst p.1)) = some m at h2
    simp only [ob_some, om_some] at h2
    obtain ⟨p, h3, T', h4, rfl⟩ := h2
    obtain ⟨args', ha, hr⟩ := hA
    obtain ⟨hen, hcall⟩ := hk _ _ _ _ _ (show r.call f args st = some (p.1, p.2) from h3)
    rw [hen] at hr
    obtain ⟨ρ', w', v', fr', g, H, V, hs, hl⟩ := hcall ρ w args' (on b tm df (.inRegion ops (i :: rest) :: k) :: cs) hH ha
    have henter : step P (lone (on b tm df (.inRegion ops (i :: rest) :: k)) cs w) = .next (lone (Frame.enter P f ⟨args'⟩ .normal) (on b tm df (.inRegion ops (i :: rest) :: k) :: cs) w) :=
      step_lone_go (by rw [hg]; exact ap_enter hr (by simp [on]))
    refine ⟨ρ', w', putC tm o.dst v', df, g, H, putDst_sound h4 (hT.mono g.le) V, hD.mono g.le, .head henter (hs.trans (.one ?_))⟩
    rw [← hfin]; exact st_leave hl
  | yld l args =>
    have hg := stepG_on (P := P) (b := b) (df := df) (k := k) (cs := cs) (w := w) (rest := rest) ho hw (notDefer (fun _ _ => by simp))
    change (ob (yieldA r l args st) fun p => om (fun T => (⟨T, D, p.2⟩ : Mid)) (putDst nt T o.dst p.1)) = some m at h2
    simp only [ob_some, om_some] at h2
    obtain ⟨p, h3, T', h4, rfl⟩ := h2
    obtain ⟨L, args', hL, ha, hr⟩ := hA
    obtain ⟨f, tmps, as, body, hy, hround⟩ := yield_sound hc (show yieldA r l args st = some (p.1, p.2) from h3) hH hL ha
    rw [hy] at hr
    obtain ⟨ρ', w', v', g, H, V, hs⟩ := hround (on b tm df (.inRegion ops (i :: rest) :: k)) cs
    have henter : step P (lone (on b tm df (.inRegion ops (i :: rest) :: k)) cs w) = .next (lone (Frame.round L.blk f tmps as body .normal) (on b tm df (.inRegion ops (i :: rest) :: k) :: cs) w) :=
      step_lone_go (by rw [hg]; exact ap_round hr)
    refine ⟨ρ', w', putC tm o.dst v', df, g, H, putDst_sound h4 (hT.mono g.le) V, hD.mono g.le, .head henter ?_⟩
    rw [← hfin]; exact hs
  | dfr f args =>
    change ifb cd (om (fun T => (⟨T, .call f args :: D, st⟩ : Mid)) (putDst nt T o.dst undefA)) none = some m at h2
    rw [ifb_none, om_some] at h2
    obtain ⟨hcd, T', h3, rfl⟩ := h2
    have hg := stepG_on (P := P) (b := b) (df := df) (k := k) (cs := cs) (w := w) (rest := rest) ho hw (.inl (hb hcd))
    obtain ⟨a, c, ha, hr⟩ := hA
    refine ⟨ρ, w, putC tm o.dst Go.undef, _ :: df, Goes.refl, hH, putDst_sound h3 hT (.tuple .nil), .cons (.call ha) hD, .one (step_lone_go ?_)⟩
    rw [hg, ap_defer hr]
    have := finish_on b tm ({ target := .fn (.func f) ⟨c⟩, args := ⟨a⟩ } :: df) ops i rest k Go.undef
    simp only [ho, Option.bind_some] at this
    rw [← this]
    rfl

/-- A region in the order of its text. -/
theorem ops_sound {r : Rec} (hc : CodeOk P r) (hk : CallOk P r.call) {cd : Bool} {nt : Nat} {ops : Array Oper} {b : Frame} (hb : cd = true → b.roundOf = none) (k : List Item) (cs : List Frame) :
    ∀ (l : List Oper) (n : Nat) (idx : List Nat) (T : Tr AV) (D : List ADef) (st : St) (m : Mid), opsRun P r cd nt ops.toList l T D st = some m → idx = (List.range l.length).map (n + ·) → (∀ j, j < l.length → ops[n + j]? = l[j]?) →
    ∀ (ρ : Names) (w : World) (tm : Array Value) (df : List Deferred), HR ρ st w → TR ρ nt T tm → DRs ρ D df →
    ∃ ρ' w' tm' df', Goes ρ st w ρ' m.st w' ∧ HR ρ' m.st w' ∧ TR ρ' nt m.tmps tm' ∧ DRs ρ' m.defers df' ∧
      Steps P (lone (on b tm df (.inRegion ops idx :: k)) cs w) (lone (on b tm' df' k) cs w') := by
  intro l
  induction l with
  | nil =>
    intro n idx T D st m h hidx _ ρ w tm df hH hT hD
    injection h with h; subst h
    simp at hidx; subst hidx
    exact ⟨ρ, w, tm, df, Goes.refl, hH, hT, hD, .one st_regionEnd⟩
  | cons o l ih =>
    intro n idx T D st m h hidx hl ρ w tm df hH hT hD
    have ho : ops[n]? = some o := by have := hl 0 (by simp); simpa using this
    have hidx' : idx = n :: (List.range l.length).map ((n + 1) + ·) := by
      rw [hidx, List.length_cons, List.range_succ_eq_map, List.map_cons, List.map_map]
      simp only [Nat.add_zero]
      congr 1
      apply List.map_congr_left
      intro j _
      simp [Function.comp]; omega
    have hl' : ∀ j, j < l.length → ops[n + 1 + j]? = l[j]? := fun j hj => by
      have := hl (j + 1) (by simp; omega)
      rw [show n + 1 + j = n + (j + 1) by omega, this]; simp
    change (ob (wantedA T ops.toList o) fun b => Bool.rec (ob (putDst nt T o.dst undefA) fun T => opsRun P r cd nt ops.toList l T D st)
      (ob (one P r cd nt T D st o) fun m => Mid.rec (fun T D st => opsRun P r cd nt ops.toList l T D st) m) b) = some m at h
    simp only [ob_some] at h
    obtain ⟨bw, h1, h2⟩ := h
    have hw := wantedA_sound hT h1
    subst hidx'
    cases bw with
    | false =>
      simp only [ob_some] at h2
      obtain ⟨T', h3, h4⟩ := h2
      obtain ⟨ρ', w', tm', df', g, H, hT', hD', hs⟩ := ih (n + 1) _ T' D st m h4 rfl hl' ρ w (putC tm o.dst Go.undef) df hH (putDst_sound h3 hT (.tuple .nil)) hD
      exact ⟨ρ', w', tm', df', g, H, hT', hD', .head (st_unwanted ho hw) hs⟩
    | true =>
      simp only [ob_some] at h2
      obtain ⟨m1, h3, h4⟩ := h2
      obtain ⟨ρ1, w1, tm1, df1, g1, H1, T1, D1, s1⟩ := one_sound hc hk h3 hH hT hD hb ho hw ((List.range l.length).map ((n + 1) + ·)) k cs
      obtain ⟨ρ', w', tm', df', g, H, hT', hD', hs⟩ := ih (n + 1) _ m1.tmps m1.defers m1.st m h4 rfl hl' ρ1 w1 tm1 df1 H1 T1 D1
      exact ⟨ρ', w', tm', df', g1.trans g, H, hT', hD', s1.trans hs⟩

end Go.Det
