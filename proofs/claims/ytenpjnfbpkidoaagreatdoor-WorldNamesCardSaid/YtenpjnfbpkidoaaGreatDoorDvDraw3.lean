/- A region whose order is drawn: every order. -/
import Derived.Test.YtenpjnfbpkidoaaGreatDoorDvDraw2
import Derived.Orders
set_option linter.unusedVariables false
set_option linter.unusedSimpArgs false
namespace Go.Det
variable {P : Program}

def cntF (S : Nat → Bool) : Nat → Nat
  | 0 => 0
  | n + 1 => cntF S n + (if S n = true then 0 else 1)
theorem cntF_congr {S S' : Nat → Bool} : ∀ {n : Nat}, (∀ j, j < n → S j = S' j) → cntF S n = cntF S' n
  | 0, _ => rfl
  | n + 1, h => by rw [cntF, cntF, cntF_congr fun j hj => h j (by omega), h n (by omega)]
theorem cntF_upd {S : Nat → Bool} {i : Nat} (hS : S i = false) : ∀ {n : Nat}, i < n → cntF (upd S i) n + 1 = cntF S n
  | n + 1, h => by
    rw [cntF, cntF]
    by_cases e : i = n
    · subst e
      rw [cntF_congr (S := upd S i) (S' := S) fun j hj => by
        have : Nat.beq j i = false := beq_f (by omega)
        simp [upd, this]]
      rw [hS, if_pos (upd_iff.2 (.inl rfl))]
      simp
    · have ih := cntF_upd hS (n := n) (by omega)
      have : (upd S i n = true) ↔ (S n = true) := by rw [upd_iff]; constructor
                                                     · rintro (q | q)
                                                       · exact absurd q.symm e
                                                       · exact q
                                                     · exact .inr
      by_cases q : S n = true
      · rw [if_pos q, if_pos (this.2 q)]; omega
      · rw [if_neg q, if_neg (fun z => q (this.1 z))]; omega
theorem cntF_zero {S : Nat → Bool} : ∀ {n : Nat}, cntF S n = 0 → ∀ j, j < n → S j = true
  | n + 1, h, j, hj => by
    rw [cntF] at h
    by_cases q : S n = true
    · by_cases e : j = n
      · subst e; exact q
      · exact cntF_zero (n := n) (by omega) j (by omega)
    · rw [if_neg q] at h; omega
theorem cntF_none {S : Nat → Bool} : ∀ {n : Nat}, (∀ j, j < n → S j = false) → cntF S n = n
  | 0, _ => rfl
  | n + 1, h => by rw [cntF, cntF_none fun j hj => h j (by omega), h n (by omega)]; simp
theorem least {S : Nat → Bool} : ∀ {n : Nat}, (∀ j, j < n → S j = true) ∨ ∃ i, i < n ∧ S i = false ∧ ∀ k, k < i → S k = true
  | 0 => .inl fun j hj => by omega
  | n + 1 => by
    rcases least (S := S) (n := n) with h | ⟨i, h1, h2, h3⟩
    · cases q : S n with
      | false => exact .inr ⟨n, by omega, q, h⟩
      | true =>
        refine .inl fun j hj => ?_
        by_cases e : j = n
        · subst e; exact q
        · exact h j (by omega)
    · exact .inr ⟨i, by omega, h2, h3⟩

theorem binds_any (e : Edge) : Region.binds .any e = bindE e := by
  unfold Region.binds bindE
  cases e.ground <;> rfl

def sOf (listed : Array Bool) : Nat → Bool := fun i => listed.getD i true
theorem sOf_set {listed : Array Bool} {i : Nat} (hi : i < listed.size) : sOf (listed.setIfInBounds i true) = upd (sOf listed) i := by
  funext j
  unfold sOf upd
  simp only [Array.getD_eq_getD_getElem?, Array.getElem?_setIfInBounds]
  by_cases e : i = j
  · subst e; simp [hi]
  · have : Nat.beq j i = false := beq_f (by omega)
    rw [if_neg e, this]; simp

theorem mem_ready {ops : Array Oper} {listed : Array Bool} (hl : listed.size = ops.size) {i : Nat} :
    i ∈ Region.ready .any ops listed ↔ ∃ o, ops[i]? = some o ∧ sOf listed i = false ∧ Ready (sOf listed) ops o := by
  unfold Region.ready
  rw [List.mem_filter, List.mem_range]
  constructor
  · rintro ⟨h1, h2⟩
    have ho : ops[i]? = some ops[i] := by simp [h1]
    rw [ho] at h2
    simp only [Option.map_some, Option.getD_some, Bool.and_eq_true, Bool.not_eq_true', Array.all_eq_true'] at h2
    refine ⟨ops[i], ho, h2.1, fun e he hb => ?_⟩
    have := h2.2 e (by simpa using he)
    rw [binds_any, hb] at this
    simp at this
    by_cases q : e.on < listed.size
    · refine ⟨?_, by omega⟩
      unfold sOf
      simp only [Array.getD_eq_getD_getElem?] at this ⊢
      rw [Array.getElem?_eq_getElem q] at this ⊢
      simpa using this
    · simp [q] at this
  · rintro ⟨o, h1, h2, h3⟩
    have hi : i < ops.size := (Array.getElem?_eq_some_iff.1 h1).1
    refine ⟨hi, ?_⟩
    rw [h1]
    simp only [Option.map_some, Option.getD_some, Bool.and_eq_true, Bool.not_eq_true', Array.all_eq_true']
    refine ⟨h2, fun e he => ?_⟩
    rw [binds_any]
    cases hb : bindE e with
    | false => rfl
    | true =>
      obtain ⟨k1, k2⟩ := h3 e (by simpa using he) hb
      unfold sOf at k1
      simp only [Array.getD_eq_getD_getElem?] at k1 ⊢
      rw [Array.getElem?_eq_getElem (by omega)] at k1 ⊢
      simpa using k1

section
variable {r : Nat → Rec} {nt base : Nat} {ops : Array Oper} {E : Nat → DEnt} {M : Nat → Nat} {ρ0 : Names} {st0 : St} {w0 : World}

theorem draw_loop (hc : ∀ i, CodeOk P (r i)) (hk : ∀ i, CallOk P (r i).call) (hR : Reg P r nt base ops E M) (h0 : st0.next ≤ base) {b : Frame} {df : List Deferred} (k : List Item) (cs : List Frame) :
    ∀ (fuel t : Nat) (listed : Array Bool) (a : Nat) (ρ : Names) (w : World) (tm : Array Value), listed.size = ops.size → cntF (sOf listed) ops.size = fuel → Inv nt base ops E M ρ0 st0 w0 (sOf listed) a ρ w tm →
    ∃ S a' ρ' w' tm', (∀ j, j < ops.size → S j = true) ∧ Inv nt base ops E M ρ0 st0 w0 S a' ρ' w' tm' ∧
      Steps P (lone (on b tm df (.inRegion ops (Region.linearise.go .any ops fuel t listed []) :: k)) cs w) (lone (on b tm' df (.inRegion ops [] :: k)) cs w') := by
  intro fuel
  induction fuel with
  | zero =>
    intro t listed a ρ w tm hl hcnt hI
    exact ⟨_, a, ρ, w, tm, cntF_zero hcnt, hI, by simp only [Region.linearise.go, List.reverse_nil]; exact Steps.refl _ _⟩
  | succ fuel ih =>
    intro t listed a ρ w tm hl hcnt hI
    have hne : Region.ready .any ops listed ≠ [] := by
      rcases least (S := sOf listed) (n := ops.size) with h | ⟨i, h1, h2, h3⟩
      · exfalso
        have : ∀ n, n ≤ ops.size → cntF (sOf listed) n = 0 := by
          intro n hn
          induction n with
          | zero => rfl
          | succ n ih => rw [cntF, ih (by omega), h n (by omega)]; rfl
        rw [this _ (Nat.le_refl _)] at hcnt
        cases hcnt
      · have ho : ops[i]? = some ops[i] := by simp [h1]
        have : i ∈ Region.ready .any ops listed := (mem_ready hl).2 ⟨ops[i], ho, h2, fun e he hb => by
          have := hR.bck i ops[i] ho e he hb
          exact ⟨h3 _ this, by omega⟩⟩
        intro q; rw [q] at this; simp at this
    have hlen : 0 < (Region.ready .any ops listed).length := List.length_pos_iff.2 hne
    obtain ⟨i, hi⟩ : ∃ i, (Region.ready .any ops listed)[t % (Region.ready .any ops listed).length]? = some i := ⟨_, List.getElem?_eq_getElem (Nat.mod_lt _ hlen)⟩
    obtain ⟨o, ho, hS, hr⟩ := (mem_ready hl).1 (List.mem_of_getElem? hi)
    have hin : i < ops.size := (Array.getElem?_eq_some_iff.1 ho).1
    have hgo : Region.linearise.go .any ops (fuel + 1) t listed [] = i :: Region.linearise.go .any ops fuel (t / (Region.ready .any ops listed).length) (listed.setIfInBounds i true) [] := by
      simp only [Region.linearise.go]
      change (match (Region.ready .any ops listed)[t % (Region.ready .any ops listed).length]? with
        | some i => Region.linearise.go .any ops fuel (t / (Region.ready .any ops listed).length) (listed.setIfInBounds i true) [i]
        | none => [].reverse) = _
      rw [hi]
      simp only []
      rw [linearise_go_acc, List.reverse_singleton, List.singleton_append]
    rw [hgo]
    obtain ⟨a1, ρ1, w1, tm1, hI1, s1⟩ := hI.step hc hk hR h0 ho hS hr (b := b) (df := df) (Region.linearise.go .any ops fuel (t / (Region.ready .any ops listed).length) (listed.setIfInBounds i true) []) k cs
    have hset := sOf_set (listed := listed) (i := i) (by omega)
    rw [← hset] at hI1
    have hc1 : cntF (sOf (listed.setIfInBounds i true)) ops.size = fuel := by
      rw [hset]
      have := cntF_upd hS (n := ops.size) hin
      omega
    obtain ⟨S, a', ρ', w', tm', z1, z2, z3⟩ := ih _ (listed.setIfInBounds i true) a1 ρ1 w1 tm1 (by simpa using hl) hc1 hI1
    exact ⟨S, a', ρ', w', tm', z1, z2, s1.trans z3⟩

/-- When all has run. -/
theorem Inv.done (hR : Reg P r nt base ops E M) {S : Nat → Bool} {a : Nat} {ρ : Names} {w : World} {tm : Array Value} (hI : Inv nt base ops E M ρ0 st0 w0 S a ρ w tm) (hS : ∀ j, j < ops.size → S j = true) :
    Goes ρ0 st0 w0 ρ (addP (E ops.size).st (E ops.size).pend) w ∧ HR ρ (addP (E ops.size).st (E ops.size).pend) w ∧ TR ρ nt (E ops.size).T tm := by
  have hI' := hI.relevel hR hI.an (Nat.le_refl _) fun k h1 h2 h3 => by
    have := (hI.acts k h3).1 (hS k h2)
    omega
  have hpe := fun p => hR.pend (Nat.le_refl ops.size) p
  have hfun : ∀ p ∈ (E ops.size).pend, ∀ q ∈ (E ops.size).pend, p.1 = q.1 → p.2 = q.2 := by
    intro p hp q hq e
    obtain ⟨j, _, _, _, rfl⟩ := (hpe p).1 hp
    obtain ⟨j', _, _, _, rfl⟩ := (hpe q).1 hq
    have : j = j' := by simp at e; exact e
    rw [this]
  obtain ⟨g1, g2⟩ := addP_get _ (E ops.size).st hfun
  obtain ⟨F, ⟨f1, fg⟩, f2, f3, f4, f5⟩ := hI'.heap
  have hsub : ∀ b o, (addP (E ops.size).st (E ops.size).pend).heap.get b = some o → F.heap.get b = some o := by
    intro b o hb
    by_cases c : ∃ p ∈ (E ops.size).pend, p.1 = b
    · obtain ⟨p, hp, rfl⟩ := c
      rw [g1 p hp] at hb
      obtain ⟨j, k1, k2, k3, rfl⟩ := (hpe p).1 hp
      injection hb with hb; subst hb
      exact f2 j ⟨k1, hS j k1, k2, k3⟩
    · rw [g2 b fun p hp e => c ⟨p, hp, e⟩] at hb
      exact hI'.sub f3 b o hb
  have hn : F.next ≤ (addP (E ops.size).st (E ops.size).pend).next := by rw [addP_next, f1]; exact Nat.le_refl _
  refine ⟨f5.ext hn hsub, f4.ext hn hsub (by rw [addP_gl, fg]), hI.size, fun t v hv => ?_⟩
  apply hI.slots
  rcases hR.slot (Nat.le_refl _) t v hv with ⟨j, h1, h2, h3, h4⟩ | ⟨h1, h2⟩
  · exact .inl ⟨j, h1, hS j h1, h2, fun j' k1 _ k3 => h3 j' k1 k3, h4⟩
  · exact .inr ⟨fun j k1 _ => h1 j k1, h2⟩
end

/-- A region whose order is drawn. -/
theorem draw_sound (hm : P.follows .mixedOrders = true) {r : Nat → Rec} (hc : ∀ i, CodeOk P (r i)) (hk : ∀ i, CallOk P (r i).call) {nt : Nat} {ops : Array Oper} {T : Tr AV} {D : List ADef} {st : St} {m : Mid} (h : drawRunR P r nt ops.toList T D st = some m)
    {ρ : Names} {w : World} {tm : Array Value} {df : List Deferred} (hH : HR ρ st w) (hT : TR ρ nt T tm) (hD : DRs ρ D df) {b : Frame} (id : Nat) (k : List Item) (cs : List Frame) :
    ∃ ρ' w' tm' df', Goes ρ st w ρ' m.st w' ∧ HR ρ' m.st w' ∧ TR ρ' nt m.tmps tm' ∧ DRs ρ' m.defers df' ∧
      Steps P (lone (on b tm df (.code (.region id ops true) :: k)) cs w) (lone (on b tm' df' k) cs w') := by
  unfold drawRunR at h
  simp only [ifb_none, ob_some] at h
  obtain ⟨hreg, q, hgo, hrd, h⟩ := h
  injection h with h; subst h
  obtain ⟨trf, mid⟩ := q
  obtain ⟨_, ⟨e0, d1, d2, d3, d4⟩, d5, e1, d6, d7⟩ := drawGo_data hgo rfl
  simp only [Nat.zero_add, Array.length_toList, Array.getElem?_toList] at d5 d6
  let E : Nat → DEnt := fun k => (trf[k]?).getD e0
  let M : Nat → Nat := fun i => (nth i (befs [] ops.toList)).getD 0
  have hE : ∀ k e, trf[k]? = some e → E k = e := fun k e he => by show (trf[k]?).getD e0 = e; rw [he]; rfl
  have hM : ∀ i mi, nth i (befs [] ops.toList) = some mi → M i = mi := fun i mi he => by show (nth i _).getD 0 = mi; rw [he]; rfl
  have stp : ∀ i o, ops[i]? = some o → Stp P r nt st.next ops.toList (befs [] ops.toList) i o (E i) (E (i + 1)) := by
    intro i o ho
    obtain ⟨e, e', k1, k2, k3⟩ := d5 i o ho
    rw [hE i e k1, hE (i + 1) e' k2]; exact k3
  have hR : Reg P r nt st.next ops E M := by
    refine ⟨fun i o ho => ?_, fun i o ho => ?_, fun i o ho => ?_, fun i o j ho hj => ?_, fun i o ho => ?_, fun i k x y hik hx hy => ?_, fun i o ho hrk hwt a x hx hxa => ?_, ?_⟩
    · obtain ⟨mi, d, a1, a2, a3, a4, a5, a6, a7, a8⟩ := stp i o ho; exact a2
    · obtain ⟨mi, d, a1, a2, a3, a4, a5, a6, a7, a8⟩ := stp i o ho
      exact ⟨d, by rw [hM i mi a1]; exact a3, a5, a6, a7, a8⟩
    · obtain ⟨mi, d, a1, a2, a3, a4, a5, a6, a7, a8⟩ := stp i o ho; rw [a7]; exact a4
    · obtain ⟨mi, d, a1, a2⟩ := stp i o ho
      rw [hM i mi a1] at hj
      obtain ⟨e, q1, q2, q3⟩ := bef_closed (by rw [Array.getElem?_toList]; exact ho) a1 hj
      refine ⟨e, q1, q2, ?_⟩
      rcases q3 with q3 | ⟨m', q3, q4⟩
      · exact .inl q3
      · exact .inr (by rw [hM _ _ q3]; exact q4)
    · obtain ⟨mi, q1, q2, q3⟩ := regOk_spec hreg (k := i) (y := o) (by rw [Array.getElem?_toList]; exact ho)
      exact backs_spec q2
    · obtain ⟨mi, q1, q2, q3⟩ := regOk_spec hreg (k := k) (y := y) (by rw [Array.getElem?_toList]; exact hy)
      rw [hM _ _ q1]
      exact q3 i x hik (by rw [Array.getElem?_toList]; exact hx)
    · obtain ⟨e, e', k1, k2, k3⟩ := d5 i o ho
      have hEi := hE i e k1
      have := readsOk_spec hrd i o e (by rw [Array.getElem?_toList]; exact ho) k1 hrk (by rw [← hEi]; exact hwt)
      rw [Nat.zero_add] at this
      have := readsOk1_spec this a x (by rw [Array.getElem?_toList]; exact hx) hxa
      simp only [Nat.zero_add] at this
      rw [hEi]
      constructor
      · intro hlt
        rcases this.1 hlt with ⟨mi, q1, q2⟩ | ⟨ea, q1, q2⟩
        · exact .inl (by rw [hM _ _ q1]; exact q2)
        · exact .inr (by rw [hE _ _ q1]; exact q2)
      · intro hle
        rcases this.2 hle with ⟨mi, q1, q2⟩ | ⟨ea, q1, q2⟩
        · exact .inl (by rw [hM _ _ q1]; exact q2)
        · exact .inr (by rw [hE _ _ q1]; exact q2)
    · rw [hE 0 e0 d1]; exact d4
  have hE0 := hE 0 e0 d1
  have hEn := hE _ _ d6
  have hs0 : ∀ j, j < ops.size → sOf (Array.replicate ops.size false) j = false := fun j hj => by simp [sOf, hj]
  have hI : Inv nt st.next ops E M ρ st { w with drawn := w.drawn + 1 } (sOf (Array.replicate ops.size false)) 0 ρ { w with drawn := w.drawn + 1 } tm := by
    have hst : (E 0).st = ⟨st.heap, st.next + ops.size, st.vm, st.gl, st.rw⟩ := by rw [hE0, d3]; simp
    have hH' : HR ρ (E 0).st { w with drawn := w.drawn + 1 } := (hH.drew _).ext (by rw [hst]; exact Nat.le_add_right _ _) (by rw [hst]; exact fun b o h => h) (by rw [hst])
    refine ⟨Nat.zero_le _, fun k hk => ?_, fun k h1 h2 => ?_, by rw [hst]; exact Nat.le_refl _, fun j hj _ => ?_, fun j hj => ?_, ⟨(E 0).st, ⟨rfl, rfl⟩, fun j hj => ?_, fun b hb => rfl, hH', ?_⟩, fun t v hk => ?_, hT.1⟩
    · rw [hs0 k hk.lt]; simp
    · rw [hs0 k h1] at h2; cases h2
    · cases q : ρ (st.next + j) with
      | none => rfl
      | some L => have := (hH.lt _ _ q).1; omega
    · have := hj.2.1; rw [hs0 j hj.1] at this; cases this
    · have := hj.2.1; rw [hs0 j hj.1] at this; cases this
    · exact Goes.refl.ext (by rw [hst]; exact Nat.le_add_right _ _) (by rw [hst]; exact fun b o h => h)
    · rcases hk with ⟨j, h1, h2, _⟩ | ⟨_, h2⟩
      · rw [hs0 j h1] at h2; cases h2
      · rw [hE0, d2] at h2; exact hT.2 t v h2
  have hsched : Region.schedule (P.follows .mixedOrders) ops (w.tape w.drawn (.order b.fn id)) = Region.linearise.go .any ops ops.size (w.tape w.drawn (.order b.fn id)) (Array.replicate ops.size false) [] := by
    simp only [Region.schedule, hm, Bool.true_or, if_true]
    rfl
  obtain ⟨S, a', ρ', w', tm', z1, z2, z3⟩ := draw_loop hc hk hR (Nat.le_refl st.next) (b := b) (df := df) k cs ops.size (w.tape w.drawn (.order b.fn id)) (Array.replicate ops.size false) 0 ρ { w with drawn := w.drawn + 1 } tm (by simp) (cntF_none hs0) hI
  obtain ⟨y1, y2, y3⟩ := z2.done hR z1
  rw [hEn] at y1 y2 y3
  subst d7
  refine ⟨ρ', w', tm', df, ?_, y2, y3, hD.mono y1.le, .head st_draw ?_⟩
  · exact ⟨y1.le, y1.next, y1.fresh, y1.size, y1.img, y1.same, y1.os, y1.tape, y1.output, y1.grew⟩
  · rw [hsched]; exact z3.trans (.one st_regionEnd)

end Go.Det
