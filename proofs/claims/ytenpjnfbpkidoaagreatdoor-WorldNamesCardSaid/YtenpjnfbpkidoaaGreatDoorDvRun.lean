/- Code and calls: the deterministic machine's run is the model's. -/
import Derived.Test.YtenpjnfbpkidoaaGreatDoorDvEval
import Derived.Test.YtenpjnfbpkidoaaGreatDoorDvDraw3
import Derived.Laws.Sem
set_option linter.unusedVariables false
set_option linter.unusedSimpArgs false
namespace Go.Det
variable {P : Program}

theorem Steps.cut {m0 m1 X : Machine} (h : step P m0 = .next m1) (hx : Steps P m0 X) (hne : X ≠ m0) : Steps P m1 X := by
  obtain ⟨n, hn⟩ := hx
  cases n with
  | zero => simp [runN] at hn; exact absurd hn.symm hne
  | succ n => exact ⟨n, by simpa [runN, h] using hn⟩
theorem lone_todo {fr fr' : Frame} {cs cs' : List Frame} {w w' : World} (h : lone fr cs w = lone fr' cs' w') : fr.todo = fr'.todo := by
  have := congrArg (fun m : Machine => (m.gs[0]?).map (·.frame.todo)) h
  simpa [lone] using this
theorem Arr.cut {b : Frame} {tm0 tm : Array Value} {df0 df : List Deferred} {c : Code} {k : List Item} {cs cs0 : List Frame} {w0 w : World} {m1 : Machine} {e : Ex} (h : step P (lone (on b tm0 df0 (.code (.loop c) :: k)) cs0 w0) = .next m1)
    (ha : Arr P (lone (on b tm0 df0 (.code (.loop c) :: k)) cs0 w0) b k cs e tm df w) : Arr P m1 b k cs e tm df w := by
  cases e with
  | normal =>
    refine Steps.cut h ha fun q => ?_
    have := lone_todo q
    simp only [on] at this
    have := congrArg List.length this
    simp at this
  | exit id =>
    obtain ⟨k2, h1, h2⟩ := ha
    refine ⟨k2, h1, Steps.cut h h2 fun q => ?_⟩
    have := lone_todo q
    simp [on] at this
  | ret =>
    obtain ⟨k2, h2⟩ := ha
    refine ⟨k2, Steps.cut h h2 fun q => ?_⟩
    have := lone_todo q
    simp [on] at this

/-- A run of one part, and what is left of the whole. -/
theorem Arr.bind {m : Machine} {b : Frame} {k k' : List Item} {cs : List Frame} {e : Ex} {tm : Array Value} {df : List Deferred} {w : World} (hk : ∀ id, exitTo id k' = exitTo id k) (h : Arr P m b k' cs e tm df w) (he : e ≠ .normal) : Arr P m b k cs e tm df w := by
  cases e with
  | normal => exact absurd rfl he
  | exit id => obtain ⟨k2, h1, h2⟩ := h; exact ⟨k2, h1.trans (hk id), h2⟩
  | ret => exact h

theorem st_scope {b : Frame} {tm : Array Value} {df : List Deferred} {k : List Item} {cs : List Frame} {w : World} {c : Code} : step P (lone (on b tm df (.code (.scope c) :: k)) cs w) = .next (lone (on b tm df (.code c :: .inScope c :: k)) cs w) := step_lone_go (by simp [stepG, stepG.exec, on])
theorem st_inScope {b : Frame} {tm : Array Value} {df : List Deferred} {k : List Item} {cs : List Frame} {w : World} {c : Code} : step P (lone (on b tm df (.inScope c :: k)) cs w) = .next (lone (on b tm df k) cs w) := step_lone_go (by simp [stepG, stepG.exec, on])

theorem st_rangeFunc {b : Frame} {tm : Array Value} {df mark : List Deferred} {g : Operand} {ps : Array Tmp} {as body : Code} {k : List Item} {cs : List Frame} {w w2 : World} {l : Nat} {f : FuncId} {A : Array Value}
    (he : (Instr.enterLoop b.fn tm ps as body b.roundOf).run P w = .ok (l, mark) w2)
    (hr : (do let d ← resolve (evT tm) { callee := .value g, args := #[.const (.func (.yield l) #[] #[])], argTypes := #[] } 0; invoke d.target d.args : Sem Next).run P w2 = .ok (.enter f A) w2) :
    step P (lone (on b tm df (.code (.rangeFunc g ps as body) :: k)) cs w) = .next (lone (Frame.enter P f A .normal) (on b tm (mark ++ df) (.inRangeFunc l :: k) :: cs) w2) := by
  refine step_lone_go ?_
  have hev := on_eval b tm (mark ++ df) (.inRangeFunc l :: k)
  have := ap_enter (P := P) (fr := on b tm (mark ++ df) (.inRangeFunc l :: k)) (cs := cs) hr (by simp [on])
  rw [← hev] at this
  simp only [on] at this
  simp only [stepG, stepG.exec, on, Sem.runT_eq, he, GStep.bare_after]
  exact this
theorem st_endRange {b : Frame} {tm : Array Value} {df : List Deferred} {k : List Item} {cs : List Frame} {w w2 : World} {l : Nat} {j : Option Code} (h : (Instr.endLoop l).run P w = .ok j w2) :
    step P (lone (on b tm df (.endRangeFunc l :: k)) cs w) = .next (lone (on b tm df ((j.map Item.code).toList ++ k)) cs w2) := by
  refine step_lone_go ?_
  simp only [stepG, stepG.exec, on, Sem.runT_eq, h, GStep.bare_after]
  rfl

theorem jumpA_some {c : Code} {e : Ex} (h : jumpA c = some e) : (∃ id, c = .exit id ∧ e = .exit id) ∨ (c = .ret ∧ e = .ret) := by
  unfold jumpA at h
  split at h
  · injection h with h; exact .inl ⟨_, rfl, h.symm⟩
  · injection h with h; exact .inr ⟨rfl, h.symm⟩
  · cases h

/-- The blocks of a loop over a function. -/
theorem loopPlace_sound {ro rb : Option Nat} {D : List ADef} {st : St} {q : Place} (h : loopPlace ro D st = some q) {ρ : Names} {w : World} (hH : HR ρ st w) {df : List Deferred} (hD : DRs ρ D df) (hro : RoR ρ ro rb) (fn : FuncId) (tm : Array Value) (ps : Array Tmp) (as body : Code) :
    ∃ ρ1 w1 mark dL, Goes ρ st w ρ1 q.st w1 ∧ HR ρ1 q.st w1 ∧ DRs ρ1 q.defers (mark ++ df) ∧ ρ1 q.d = some dL ∧
      (Instr.enterLoop fn tm ps as body rb).run P w = .ok (w1.heap.size, mark) (worldNew w1 (.loop { state := .ready, pending := none, fn, tmps := tm, params := ps, assign := as, body, defers := dL.blk })) := by
  unfold loopPlace at h
  cases hro with
  | none =>
    injection h with h; subst h
    obtain ⟨H, G⟩ := hH.new (.deferred true) ⟨w.heap.size, 0, 0⟩ (.deferred (some [])) rfl rfl
    refine ⟨_, _, [{ target := .collected w.heap.size, args := #[] }], ⟨w.heap.size, 0, 0⟩, G, H, .cons (.collected (Names.set_same _ _ _)) (hD.mono G.le), Names.set_same _ _ _, ?_⟩
    simp [Instr.enterLoop, newObj, Sem.run, worldNew]
    rfl
  | some hl =>
    rename_i l L
    change om (fun p => (⟨p.defers, D, st⟩ : Place)) (loopOf st l) = some q at h
    rw [om_some] at h
    obtain ⟨p, h1, rfl⟩ := h
    obtain ⟨tm', d, k1, k2, k3⟩ := loop_at hH h1 hl
    refine ⟨ρ, w, [], d, Goes.refl, hH, hD, k3, ?_⟩
    simp [Instr.enterLoop, Instr.getLoop, getObj, newObj, Sem.run, worldNew, k1]

theorem RoR.isNone {ρ : Names} {ro rb : Option Nat} (h : RoR ρ ro rb) (hn : Option.isNone ro = true) : rb = Option.none := by
  cases h with
  | none => rfl
  | some _ => cases hn

theorem code_sound (hm : P.follows .mixedOrders = true) {r : Rec} (hc : CodeOk P r) (hk : CallOk P r.call) : CodeOk P (recStep P r) := by
  intro ro fn nt c T D st o h ρ w tm df b k cs hH hT hD hb hro
  change codeStep P r ro fn nt c T D st = some o at h
  have nil : ∀ {e : Ex}, o = ⟨e, T, D, st⟩ → Arr P (lone (on b tm df (.code c :: k)) cs w) b k cs e tm df w → Ran P nt ρ st w o (lone (on b tm df (.code c :: k)) cs w) b k cs := by
    rintro e rfl ha
    exact ⟨ρ, w, tm, df, Goes.refl, hH, hT, hD, ha⟩
  unfold codeStep at h
  split at h
  · injection h with h; exact nil h.symm (.one st_skip)
  · injection h with h; exact nil h.symm (.one st_label)
  · -- seq
    rename_i x y
    simp only [ob_some] at h
    obtain ⟨o1, h1, h2⟩ := h
    obtain ⟨ρ1, w1, tm1, df1, g1, H1, T1, D1, A1⟩ := hc _ _ _ _ _ _ _ _ h1 ρ w tm df b (.code y :: k) cs hH hT hD hb hro
    obtain ⟨e1, t1, d1, s1⟩ := o1
    change e1.thenO ⟨e1, t1, d1, s1⟩ (r.code ro fn nt y t1 d1 s1) = some o at h2
    cases e1 with
    | normal =>
      obtain ⟨ρ2, w2, tm2, df2, g2, H2, T2, D2, A2⟩ := hc _ _ _ _ _ _ _ _ h2 ρ1 w1 tm1 df1 b k cs H1 T1 D1 hb (hro.mono g1.le)
      exact ⟨ρ2, w2, tm2, df2, g1.trans g2, H2, T2, D2, A2.of_steps (.head st_seq A1)⟩
    | exit id =>
      injection h2 with h2; subst h2
      exact ⟨ρ1, w1, tm1, df1, g1, H1, T1, D1, Arr.of_steps (.one st_seq) (Arr.bind (fun _ => rfl) A1 (by simp))⟩
    | ret =>
      injection h2 with h2; subst h2
      exact ⟨ρ1, w1, tm1, df1, g1, H1, T1, D1, Arr.of_steps (.one st_seq) (Arr.bind (fun _ => rfl) A1 (by simp))⟩
  · -- cond
    rename_i x y z
    simp only [ob_some] at h
    obtain ⟨v, h1, h2⟩ := h
    have hv := evT_sound hT _ _ h1
    split at h2
    rotate_left
    · cases h2
    rename_i t
    obtain ⟨u, hu⟩ : ∃ u, evT tm x = u := ⟨_, rfl⟩
    rw [hu] at hv
    cases hv
    cases t with
    | true =>
      obtain ⟨ρ1, w1, tm1, df1, g1, H1, T1, D1, A1⟩ := hc _ _ _ _ _ _ _ _ h2 ρ w tm df b k cs hH hT hD hb hro
      exact ⟨ρ1, w1, tm1, df1, g1, H1, T1, D1, A1.of_steps (.one (st_cond hu))⟩
    | false =>
      obtain ⟨ρ1, w1, tm1, df1, g1, H1, T1, D1, A1⟩ := hc _ _ _ _ _ _ _ _ h2 ρ w tm df b k cs hH hT hD hb hro
      exact ⟨ρ1, w1, tm1, df1, g1, H1, T1, D1, A1.of_steps (.one (st_cond hu))⟩
  · -- block
    rename_i id y
    rw [om_some] at h
    obtain ⟨o1, h1, h2⟩ := h
    obtain ⟨ρ1, w1, tm1, df1, g1, H1, T1, D1, A1⟩ := hc _ _ _ _ _ _ _ _ h1 ρ w tm df b (.inBlock id :: k) cs hH hT hD hb hro
    obtain ⟨e1, t1, d1, s1⟩ := o1
    cases e1 with
    | normal =>
      change (⟨.normal, t1, d1, s1⟩ : Out) = o at h2
      subst h2
      exact ⟨ρ1, w1, tm1, df1, g1, H1, T1, D1, Steps.head st_block (Steps.trans A1 (.one st_inBlock))⟩
    | exit i =>
      change ifb (Nat.beq i id) (⟨.normal, t1, d1, s1⟩ : Out) ⟨.exit i, t1, d1, s1⟩ = o at h2
      obtain ⟨k2, q1, q2⟩ := A1
      simp only [exitTo] at q1
      by_cases e : i = id
      · subst e
        rw [beq_t rfl, ifb_true] at h2; subst h2
        simp only [beq_self_eq_true, if_true] at q1
        exact ⟨ρ1, w1, tm1, df1, g1, H1, T1, D1, Steps.head st_block (q2.trans (.one (st_exit q1)))⟩
      · rw [beq_f e, ifb_false] at h2; subst h2
        rw [if_neg (by simp; exact fun q => e q.symm)] at q1
        exact ⟨ρ1, w1, tm1, df1, g1, H1, T1, D1, k2, q1, .head st_block q2⟩
    | ret =>
      change (⟨.ret, t1, d1, s1⟩ : Out) = o at h2
      subst h2
      obtain ⟨k2, q2⟩ := A1
      exact ⟨ρ1, w1, tm1, df1, g1, H1, T1, D1, k2, .head st_block q2⟩
  · -- loop
    rename_i y
    simp only [ob_some] at h
    obtain ⟨o1, h1, h2⟩ := h
    obtain ⟨ρ1, w1, tm1, df1, g1, H1, T1, D1, A1⟩ := hc _ _ _ _ _ _ _ _ h1 ρ w tm df b (.inLoop y :: k) cs hH hT hD hb hro
    obtain ⟨e1, t1, d1, s1⟩ := o1
    change e1.thenO ⟨e1, t1, d1, s1⟩ (r.code ro fn nt (.loop y) t1 d1 s1) = some o at h2
    cases e1 with
    | normal =>
      obtain ⟨ρ2, w2, tm2, df2, g2, H2, T2, D2, A2⟩ := hc _ _ _ _ _ _ _ _ h2 ρ1 w1 tm1 df1 b k cs H1 T1 D1 hb (hro.mono g1.le)
      exact ⟨ρ2, w2, tm2, df2, g1.trans g2, H2, T2, D2, Arr.of_steps (.head st_loop (Steps.trans A1 (.one st_inLoop))) (Arr.cut st_loop A2)⟩
    | exit id =>
      injection h2 with h2; subst h2
      exact ⟨ρ1, w1, tm1, df1, g1, H1, T1, D1, Arr.of_steps (.one st_loop) (Arr.bind (fun _ => rfl) A1 (by simp))⟩
    | ret =>
      injection h2 with h2; subst h2
      exact ⟨ρ1, w1, tm1, df1, g1, H1, T1, D1, Arr.of_steps (.one st_loop) (Arr.bind (fun _ => rfl) A1 (by simp))⟩
  · -- scope
    rename_i y
    obtain ⟨ρ1, w1, tm1, df1, g1, H1, T1, D1, A1⟩ := hc _ _ _ _ _ _ _ _ h ρ w tm df b (.inScope y :: k) cs hH hT hD hb hro
    obtain ⟨e1, t1, d1, s1⟩ := o
    refine ⟨ρ1, w1, tm1, df1, g1, H1, T1, D1, Arr.of_steps (.one st_scope) ?_⟩
    cases e1 with
    | normal => exact Steps.trans A1 (.one st_inScope)
    | exit id => exact Arr.bind (fun _ => rfl) A1 (by simp)
    | ret => exact Arr.bind (fun _ => rfl) A1 (by simp)
  · rename_i id
    injection h with h; exact nil h.symm ⟨k, rfl, Steps.refl _ _⟩
  · injection h with h; exact nil h.symm ⟨k, Steps.refl _ _⟩
  · -- region
    rename_i id ops draw
    rw [om_some] at h
    obtain ⟨m, h1, rfl⟩ := h
    cases draw with
    | false =>
      change opsRun P r ro.isNone nt ops.toList ops.toList T D st = some m at h1
      obtain ⟨ρ1, w1, tm1, df1, g1, H1, T1, D1, A1⟩ := ops_sound (ops := ops) (b := b) hc hk (cd := ro.isNone) (nt := nt) (fun q => hro.isNone q) k cs ops.toList 0 (List.range ops.size) T D st m h1
        (by simp) (fun j hj => by simp) ρ w tm df hH hT hD
      exact ⟨ρ1, w1, tm1, df1, g1, H1, T1, D1, Steps.head st_region A1⟩
    | true =>
      change drawRun P r nt ops.toList T D st = some m at h1
      obtain ⟨ρ1, w1, tm1, df1, g1, H1, T1, D1, A1⟩ := draw_sound hm (r := fun _ => r) (fun _ => hc) (fun _ => hk) h1 hH hT hD (b := b) id k cs
      exact ⟨ρ1, w1, tm1, df1, g1, H1, T1, D1, A1⟩
  · -- a loop over a function
    rename_i g ps as body
    simp only [ob_some] at h
    obtain ⟨gv, h1, q, h2, h3⟩ := h
    have hg := evT_sound hT _ _ h1
    unfold rangeA at h3
    split at h3
    rotate_left
    · cases h3
    rename_i f first cap
    simp only [ob_some] at h3
    obtain ⟨p, h4, lp, h5, h6⟩ := h3
    obtain ⟨u, hu⟩ : ∃ u, evT tm g = u := ⟨_, rfl⟩
    rw [hu] at hg
    cases hg with
    | func hf hcap =>
      rename_i fa ca
      obtain ⟨ρ1, w1, mark, dL, G1, H1, D1, hd, hen⟩ := loopPlace_sound (P := P) h2 hH hD hro fn tm ps as body
      subst hb
      obtain ⟨H2, G2⟩ := H1.new (.loop { state := .ready, pending := none, fn := b.fn, nt, tmps := T, params := ps.toList, assign := as, body, defers := q.d }) ⟨w1.heap.size, 0, 0⟩
        (.loop { state := .ready, pending := none, fn := b.fn, tmps := tm, params := ps, assign := as, body, defers := dL.blk }) rfl
        ⟨tm, dL, rfl, (hT.mono G1.le).mono (Names.set_le _ H1.fresh), Names.set_le _ H1.fresh _ _ hd⟩
      have hl := Names.set_same ρ1 q.st.next (⟨w1.heap.size, 0, 0⟩ : Loc)
      obtain ⟨hce, hcall⟩ := hk _ _ _ _ _ (show r.call f (first ++ [AV.yield q.st.next] ++ cap) _ = some (p.1, p.2) from h4)
      have hargs : VRs (ρ1.set q.st.next ⟨w1.heap.size, 0, 0⟩) (first ++ [AV.yield q.st.next] ++ cap) (fa ++ [.func (.yield w1.heap.size) #[] #[]] ++ ca) :=
        (((hf.mono G1.le).mono G2.le).append (.cons (.yield hl) .nil)).append ((hcap.mono G1.le).mono G2.le)
      have hrun : (do let d ← resolve (evT tm) { callee := .value g, args := #[.const (.func (.yield w1.heap.size) #[] #[])], argTypes := #[] } 0; invoke d.target d.args : Sem Next).run P
          (worldNew w1 (.loop { state := .ready, pending := none, fn := b.fn, tmps := tm, params := ps, assign := as, body, defers := dL.blk })) =
          .ok (.enter f ⟨fa ++ [.func (.yield w1.heap.size) #[] #[]] ++ ca⟩) (worldNew w1 (.loop { state := .ready, pending := none, fn := b.fn, tmps := tm, params := ps, assign := as, body, defers := dL.blk })) := by
        rw [← hce]
        have hres : (resolve (evT tm) { callee := .value g, args := #[.const (.func (.yield w1.heap.size) #[] #[])], argTypes := #[] } 0) = pure { target := .fn (.func f) ⟨ca⟩, args := ⟨fa ++ [.func (.yield w1.heap.size) #[] #[]]⟩ } := by
          have hcv : evT tm (.const (.func (.yield w1.heap.size) #[] #[])) = .func (.yield w1.heap.size) #[] #[] := rfl
          simp [resolve, hu, hcv, Deferred.ofValue]
        rw [hres]
        simp [invoke]
      obtain ⟨ρ3, w3, v3, fr3, G3, H3, V3, s3, l3⟩ := hcall _ _ _ (on b tm (mark ++ df) (.inRangeFunc w1.heap.size :: k) :: cs) H2 hargs
      have hl3 := G3.le _ _ hl
      have G123 := (G1.trans G2).trans G3
      have toEnd : Steps P (lone (on b tm df (.code (.rangeFunc g ps as body) :: k)) cs w) (lone (on b tm (mark ++ df) (.endRangeFunc w1.heap.size :: k)) cs w3) :=
        .head (st_rangeFunc hen hrun) (s3.trans (.one (st_leave l3)))
      have hT3 : TR ρ3 nt T tm := hT.mono G123.le
      have hD3 : DRs ρ3 q.defers (mark ++ df) := D1.mono (Names.le_trans G2.le G3.le)
      split at h6
      · cases h6
      rename_i hst
      obtain ⟨tm4, d4, n1, n2, n3, H4, G4⟩ := put_loop H3 h5 hl3 .exhausted lp.pending
      have hend : (Instr.endLoop w1.heap.size).run P w3 = .ok lp.pending { w3 with heap := w3.heap.setIfInBounds w1.heap.size (.loop { state := .exhausted, pending := lp.pending, fn := lp.fn, tmps := tm4, params := ⟨lp.params⟩, assign := lp.assign, body := lp.body, defers := d4.blk }) } := by
        have hs : ¬ lp.state = LoopState.busy := fun q => hst q
        have n1' : w3.heap[w1.heap.size]? = some (.loop { state := lp.state, pending := lp.pending, fn := lp.fn, tmps := tm4, params := ⟨lp.params⟩, assign := lp.assign, body := lp.body, defers := d4.blk }) := n1
        simp [Instr.endLoop, Instr.getLoop, getObj, setObj, Sem.run, n1', hs]
      have toEnd2 := toEnd.trans (.one (st_endRange (b := b) (tm := tm) (df := mark ++ df) (k := k) (cs := cs) hend))
      split at h6
      · rename_i hp
        injection h6 with h6; subst h6
        refine ⟨ρ3, _, tm, mark ++ df, G123.trans G4, H4, hT3, hD3, ?_⟩
        rw [hp] at toEnd2 ⊢
        exact toEnd2
      · rename_i c hp
        rw [om_some] at h6
        obtain ⟨e, he, rfl⟩ := h6
        refine ⟨ρ3, _, tm, mark ++ df, G123.trans G4, H4, hT3, hD3, ?_⟩
        rw [hp] at toEnd2 ⊢
        rcases jumpA_some he with ⟨id, rfl, rfl⟩ | ⟨rfl, rfl⟩
        · exact ⟨k, rfl, toEnd2⟩
        · exact ⟨k, toEnd2⟩
  · cases h

end Go.Det
