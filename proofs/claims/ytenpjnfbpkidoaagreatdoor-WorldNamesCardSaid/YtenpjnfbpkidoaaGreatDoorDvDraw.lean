/- A region whose order is drawn: what its run in the text's order has recorded holds in every order. -/
import Derived.Test.YtenpjnfbpkidoaaGreatDoorDvOrder
set_option linter.unusedVariables false
set_option linter.unusedSimpArgs false
namespace Go.Det
variable {P : Program}

theorem eqOwn_eq {a b : Option Nat} (h : eqOwn a b = true) : a = b := by
  cases a <;> cases b <;> simp only [eqOwn, Bool.false_eq_true, Nat.beq_eq] at h
  · rfl
  · rw [h]

mutual
theorem AV.beq_eq : ∀ {u v : AV}, AV.beq u v = true → u = v
  | .bool a, v, h => by cases v <;> simp only [AV.beq, Bool.false_eq_true, eqBool_eq, beq_iff_eq] at h; rw [h]
  | .int j a, v, h => by cases v <;> simp only [AV.beq, Bool.false_eq_true, ifb_and, eqKind_iff, eqInt_iff] at h; rw [h.1, h.2]
  | .str a, v, h => by
    cases v <;> simp only [AV.beq, Bool.false_eq_true, eqBytes_eq, beq_iff_eq] at h
    congr 1
    apply ByteArray.ext
    exact Array.ext' h
  | .ptr a b, v, h => by cases v <;> simp only [AV.beq, Bool.false_eq_true, ifb_and, Nat.beq_eq] at h; rw [h.1, h.2]
  | .nilPtr, v, h => by cases v <;> simp only [AV.beq, Bool.false_eq_true] at h; rfl
  | .slice a b c d e f, v, h => by
    cases v <;> simp only [AV.beq, Bool.false_eq_true, ifb_and, Nat.beq_eq, eqBool_eq, beq_iff_eq] at h
    obtain ⟨rfl, rfl, rfl, rfl, rfl, rfl⟩ := h
    rfl
  | .nilSlice, v, h => by cases v <;> simp only [AV.beq, Bool.false_eq_true] at h; rfl
  | .map a, v, h => by cases v <;> simp only [AV.beq, Bool.false_eq_true, Nat.beq_eq] at h; rw [h]
  | .nilMap, v, h => by cases v <;> simp only [AV.beq, Bool.false_eq_true] at h; rfl
  | .func f a b, v, h => by
    cases v <;> simp only [AV.beq, Bool.false_eq_true, ifb_and, Nat.beq_eq] at h
    obtain ⟨rfl, h1, h2⟩ := h
    rw [AV.beqs_eq h1, AV.beqs_eq h2]
  | .yield a, v, h => by cases v <;> simp only [AV.beq, Bool.false_eq_true, Nat.beq_eq] at h; rw [h]
  | .nilFunc, v, h => by cases v <;> simp only [AV.beq, Bool.false_eq_true] at h; rfl
  | .nilIface, v, h => by cases v <;> simp only [AV.beq, Bool.false_eq_true] at h; rfl
  | .agg a, v, h => by
    cases v <;> simp only [AV.beq, Bool.false_eq_true] at h
    rw [AV.beqs_eq h]
  | .tuple a, v, h => by
    cases v <;> simp only [AV.beq, Bool.false_eq_true] at h
    rw [AV.beqs_eq h]
  | .vs a b c d e f, v, h => by
    cases v <;> simp only [AV.beq, Bool.false_eq_true, ifb_and, Nat.beq_eq, eqBool_eq, beq_iff_eq] at h
    obtain ⟨h1, rfl, rfl, rfl, rfl, h2⟩ := h
    rw [AV.beqs_eq h1, eqOwn_eq h2]
  | .vptr a b, v, h => by
    cases v <;> simp only [AV.beq, Bool.false_eq_true, ifb_and, Nat.beq_eq] at h
    obtain ⟨h1, rfl⟩ := h
    rw [AV.beqs_eq h1]
  | .iface a b, v, h => by
    cases v <;> simp only [AV.beq, Bool.false_eq_true, ifb_and, Nat.beq_eq] at h
    rw [h.1, AV.beq_eq h.2]
  | .gptr a b, v, h => by cases v <;> simp only [AV.beq, Bool.false_eq_true, ifb_and, Nat.beq_eq] at h; rw [h.1, h.2]
theorem AV.beqs_eq : ∀ {u v : List AV}, AV.beqs u v = true → u = v
  | [], [], h => rfl
  | [], _ :: _, h => absurd h (by simp [AV.beqs])
  | _ :: _, [], h => absurd h (by simp [AV.beqs])
  | a :: x, b :: y, h => by
    simp only [AV.beqs, ifb_and] at h
    rw [AV.beq_eq h.1, AV.beqs_eq h.2]
end

theorem readSame_spec {T : Tr AV} {st : St} {op : Op} {v : AV} (h : readSame P T st op v = true) : ∃ st', aop P T st op = some (.val v st') := by
  unfold readSame at h
  split at h
  · rename_i u st' hu; rw [AV.beq_eq h] at hu; exact ⟨st', hu⟩
  · cases h

/-- What comes of an operation, its calls with it. -/
def ActOk (r : Rec) (st : St) (v : AV) (st1 : St) : OpR → Prop
  | .val u s => u = v ∧ s = st1
  | .call f args => r.call f args st = some (v, st1)
  | .yld l args => yieldA r l args st = some (v, st1)
  | .dfr _ _ => False
/-- What one operation answers, its calls with it; the frame's slots are looked at no more than by 'hT'. -/
theorem act_sound {ρ : Names} {r : Rec} (hc : CodeOk P r) (hk : CallOk P r.call) {T : Tr AV} {st st1 : St} {v : AV} {o : Oper} {x : OpR} (h1 : aop P T st o.op = some x)
    (h2 : ActOk r st v st1 x) {w : World} {tm : Array Value} {df : List Deferred}
    (hH : HR ρ st w) (hT : ∀ x a, opd T x = some a → VR ρ a (evT tm x)) {b : Frame} {ops : Array Oper} {i : Nat} (ho : ops[i]? = some o) (hw : Region.wanted o (yielded ops tm) = true) (rest : List Nat) (k : List Item) (cs : List Frame) :
    ∃ ρ' w' v', Goes ρ st w ρ' st1 w' ∧ HR ρ' st1 w' ∧ VR ρ' v v' ∧
      Steps P (lone (on b tm df (.inRegion ops (i :: rest) :: k)) cs w) (lone (on b (putC tm o.dst v') df (.inRegion ops rest :: k)) cs w') := by
  have hA := aop_sound (P := P) hT hH h1
  have hfin := fun v => finish_on b tm df ops i rest k v
  simp only [ho, Option.bind_some] at hfin
  have notDefer : (∀ f as, x ≠ .dfr f as) → b.roundOf = none ∨ ∀ c, o.op ≠ .defer c := fun hx => .inr fun c hop => by
    rw [hop] at h1
    simp only [aop] at h1
    split at h1
    · simp only [ob_some] at h1
      obtain ⟨r1, _, h4⟩ := h1
      split at h4
      · injection h4 with h4; exact hx _ _ h4.symm
      · cases h4
    · cases h1
  cases x with
  | val u s =>
    obtain ⟨rfl, rfl⟩ := h2
    have hg := stepG_on (P := P) (b := b) (df := df) (k := k) (cs := cs) (w := w) (rest := rest) ho hw (notDefer (fun _ _ => by simp))
    obtain ⟨ρ', w', v', hr, g, H, V⟩ := hA
    refine ⟨ρ', w', v', g, H, V, .one (step_lone_go ?_)⟩
    rw [hg, ← hfin]
    rcases hr with hr | ⟨hr, rfl⟩
    · exact ap_value hr
    · exact ap_skip hr
  | call f args =>
    have hg := stepG_on (P := P) (b := b) (df := df) (k := k) (cs := cs) (w := w) (rest := rest) ho hw (notDefer (fun _ _ => by simp))
    obtain ⟨args', ha, hr⟩ := hA
    obtain ⟨hen, hcall⟩ := hk _ _ _ _ _ h2
    rw [hen] at hr
    obtain ⟨ρ', w', v', fr', g, H, V, hs, hl⟩ := hcall ρ w args' (on b tm df (.inRegion ops (i :: rest) :: k) :: cs) hH ha
    have henter : step P (lone (on b tm df (.inRegion ops (i :: rest) :: k)) cs w) = .next (lone (Frame.enter P f ⟨args'⟩ .normal) (on b tm df (.inRegion ops (i :: rest) :: k) :: cs) w) :=
      step_lone_go (by rw [hg]; exact ap_enter hr (by simp [on]))
    refine ⟨ρ', w', v', g, H, V, .head henter (hs.trans (.one ?_))⟩
    rw [← hfin]; exact st_leave hl
  | yld l args =>
    have hg := stepG_on (P := P) (b := b) (df := df) (k := k) (cs := cs) (w := w) (rest := rest) ho hw (notDefer (fun _ _ => by simp))
    obtain ⟨L, args', hL, ha, hr⟩ := hA
    obtain ⟨f, tmps, as, body, hy, hround⟩ := yield_sound hc h2 hH hL ha
    rw [hy] at hr
    obtain ⟨ρ', w', v', g, H, V, hs⟩ := hround (on b tm df (.inRegion ops (i :: rest) :: k)) cs
    have henter : step P (lone (on b tm df (.inRegion ops (i :: rest) :: k)) cs w) = .next (lone (Frame.round L.blk f tmps as body .normal) (on b tm df (.inRegion ops (i :: rest) :: k) :: cs) w) :=
      step_lone_go (by rw [hg]; exact ap_round hr)
    refine ⟨ρ', w', v', g, H, V, .head henter ?_⟩
    rw [← hfin]; exact hs
  | dfr f args => exact h2.elim

/-! The record. -/
structure Reg (P : Program) (r : Nat → Rec) (nt base : Nat) (ops : Array Oper) (E : Nat → DEnt) (M : Nat → Nat) : Prop where
  want : ∀ i o, ops[i]? = some o → wantedA (E i).T ops.toList o = some (E i).wt
  op : ∀ i o, ops[i]? = some o → ∃ d, ifb (E i).wt (drawOp P (r i) base i (M i) (E i).T (E i).st (E i).pend o) (some ⟨undefA, (E i).st, none, (E i).pend⟩) = some d ∧
    (E (i + 1)).st = d.st ∧ (E (i + 1)).pend = d.pend ∧ (E i).v = d.v ∧ (E i).ob = d.ob
  put : ∀ i o, ops[i]? = some o → putDst nt (E i).T o.dst (E i).v = some (E (i + 1)).T
  clo : ∀ i o j, ops[i]? = some o → tb (M i) j = true → ∃ e ∈ o.after.toList, bindE e = true ∧ (j = e.on ∨ tb (M e.on) j = true)
  bck : ∀ i o, ops[i]? = some o → ∀ e ∈ o.after.toList, bindE e = true → e.on < i
  pair : ∀ i k x y, i < k → ops[i]? = some x → ops[k]? = some y → tb (M k) i = true ∨ apartA ops.toList x y = true
  rds : ∀ i o, ops[i]? = some o → isReadK (kd o.op) = true → (E i).wt = true → ∀ a x, ops[a]? = some x → isActK (kd x.op) = true →
    (a < i → tb (M i) a = true ∨ readSame P (E i).T (E a).st o.op (E i).v = true) ∧ (i ≤ a → tb (M a) i = true ∨ readSame P (E i).T (E (a + 1)).st o.op (E i).v = true)
  pend0 : (E 0).pend = []

def IsAct (ops : Array Oper) (i : Nat) : Prop := ∃ o, ops[i]? = some o ∧ isActK (kd o.op) = true
def IsFr (ops : Array Oper) (E : Nat → DEnt) (i : Nat) : Prop := ∃ o, ops[i]? = some o ∧ freshK (kd o.op) = true ∧ (E i).wt = true
/-- The block of operation j has been taken up by something that acts before level a. -/
def Abs (ops : Array Oper) (E : Nat → DEnt) (M : Nat → Nat) (j a : Nat) : Prop := ∃ b, j < b ∧ b < a ∧ IsAct ops b ∧ (E b).wt = true ∧ tb (M b) j = true
def objOf (E : Nat → DEnt) (j : Nat) : Ob := ((E j).ob).getD (.deferred true)

section
variable {r : Nat → Rec} {nt base : Nat} {ops : Array Oper} {E : Nat → DEnt} {M : Nat → Nat}

theorem kd_pure_of {k : Kd} (h1 : isActK k ≠ true) (h2 : isReadK k ≠ true) (h3 : freshK k ≠ true) : k = .pure := by cases k <;> simp [isActK, isReadK, freshK] at h1 h2 h3 ⊢

/-- What is wanted, kind by kind. -/
theorem Reg.still (h : Reg P r nt base ops E M) {i : Nat} {o : Oper} (ho : ops[i]? = some o) (hw : (E i).wt = true) (h1 : isActK (kd o.op) ≠ true) (h3 : freshK (kd o.op) ≠ true) :
    (∃ st', aop P (E i).T (E i).st o.op = some (.val (E i).v st')) ∧ (E (i + 1)).st = (E i).st ∧ (E (i + 1)).pend = (E i).pend := by
  obtain ⟨d, hd, e1, e2, e3, e4⟩ := h.op i o ho
  rw [hw, ifb_true] at hd
  unfold drawOp at hd
  split at hd
  · simp only [ob_some] at hd
    obtain ⟨x, k1, k2⟩ := hd
    split at k2
    · injection k2 with k2; subst k2; exact ⟨⟨_, by rw [k1, e3]⟩, e1, e2⟩
    · cases k2
  · simp only [ob_some] at hd
    obtain ⟨x, k1, k2⟩ := hd
    split at k2
    · injection k2 with k2; subst k2; exact ⟨⟨_, by rw [k1, e3]⟩, e1, e2⟩
    · cases k2
  · rename_i hk; rw [hk] at h3; exact absurd rfl h3
  · rename_i hk; rw [hk] at h1; exact absurd rfl h1
theorem Reg.fresh (h : Reg P r nt base ops E M) {i : Nat} {o : Oper} (ho : ops[i]? = some o) (hw : (E i).wt = true) (h3 : freshK (kd o.op) = true) :
    freshA P (E i).st.vm (E i).T (base + i) o.op = some ((E i).v, objOf E i) ∧ (E (i + 1)).st = (E i).st ∧ (E (i + 1)).pend = (base + i, objOf E i) :: (E i).pend := by
  obtain ⟨d, hd, e1, e2, e3, e4⟩ := h.op i o ho
  rw [hw, ifb_true] at hd
  unfold drawOp at hd
  split at hd
  · rename_i hk; rw [hk] at h3; cases h3
  · rename_i hk; rw [hk] at h3; cases h3
  · rw [om_some] at hd
    obtain ⟨q, k1, rfl⟩ := hd
    have : objOf E i = q.2 := by unfold objOf; rw [e4]; rfl
    rw [this, e3]
    exact ⟨k1, e1, e2⟩
  · rename_i hk; rw [hk] at h3; cases h3
theorem Reg.act (h : Reg P r nt base ops E M) {i : Nat} {o : Oper} (ho : ops[i]? = some o) (hw : (E i).wt = true) (h3 : isActK (kd o.op) = true) :
    (E (i + 1)).pend = (part2 base (M i) (E i).pend).no ∧ ∃ x, aop P (E i).T (addP (E i).st (part2 base (M i) (E i).pend).yes) o.op = some x ∧
      ActOk (r i) (addP (E i).st (part2 base (M i) (E i).pend).yes) (E i).v (E (i + 1)).st x := by
  obtain ⟨d, hd, e1, e2, e3, e4⟩ := h.op i o ho
  rw [hw, ifb_true] at hd
  unfold drawOp at hd
  split at hd
  · rename_i hk; rw [hk] at h3; cases h3
  · rename_i hk; rw [hk] at h3; cases h3
  · rename_i hk; rw [hk] at h3; cases h3
  · simp only [ob_some] at hd
    obtain ⟨x, k1, k2⟩ := hd
    cases x with
    | val v s => injection k2 with k2; subst k2; exact ⟨e2, _, k1, e3.symm, e1.symm⟩
    | call f args =>
      simp only [om_some] at k2
      obtain ⟨p, k2, rfl⟩ := k2
      exact ⟨e2, _, k1, by show _ = some _; rw [e3, e1]; exact k2⟩
    | yld l args =>
      simp only [om_some] at k2
      obtain ⟨p, k2, rfl⟩ := k2
      exact ⟨e2, _, k1, by show _ = some _; rw [e3, e1]; exact k2⟩
    | dfr f args => cases k2
theorem Reg.unwanted (h : Reg P r nt base ops E M) {i : Nat} {o : Oper} (ho : ops[i]? = some o) (hw : (E i).wt = false) :
    (E i).v = undefA ∧ (E (i + 1)).st = (E i).st ∧ (E (i + 1)).pend = (E i).pend := by
  obtain ⟨d, hd, e1, e2, e3, e4⟩ := h.op i o ho
  rw [hw, ifb_false] at hd
  injection hd with hd; subst hd
  exact ⟨e3, e1, e2⟩

theorem Reg.st_same (h : Reg P r nt base ops E M) {i : Nat} (hi : i < ops.size) (ha : ¬ IsAct ops i) : (E (i + 1)).st = (E i).st := by
  obtain ⟨o, ho⟩ : ∃ o, ops[i]? = some o := ⟨ops[i], by simp [hi]⟩
  cases hw : (E i).wt with
  | false => exact (h.unwanted ho hw).2.1
  | true =>
    by_cases hf : freshK (kd o.op) = true
    · exact (h.fresh ho hw hf).2.1
    · exact (h.still ho hw (fun c => ha ⟨o, ho, c⟩) hf).2.1
theorem Reg.st_upto (h : Reg P r nt base ops E M) {a : Nat} : ∀ {c : Nat}, a ≤ c → c ≤ ops.size → (∀ k, a ≤ k → k < c → ¬ IsAct ops k) → (E c).st = (E a).st
  | 0, h1, _, _ => by obtain rfl : a = 0 := by omega
                      rfl
  | c + 1, h1, h2, h3 => by
    by_cases e : a = c + 1
    · subst e; rfl
    · rw [h.st_same (by omega) (h3 c (by omega) (by omega))]
      exact h.st_upto (by omega) (by omega) fun k h4 h5 => h3 k h4 (by omega)
/-- The first thing from a on that acts. -/
theorem Reg.first (h : Reg P r nt base ops E M) {a c : Nat} (hac : a ≤ c) (hc : c ≤ ops.size) : (∀ k, a ≤ k → k < c → ¬ IsAct ops k) ∨ ∃ b, a ≤ b ∧ b < c ∧ IsAct ops b ∧ (E b).st = (E a).st := by
  obtain ⟨n, rfl⟩ : ∃ n, c = a + n := ⟨c - a, by omega⟩
  clear hac
  induction n with
  | zero => exact .inl fun k h1 h2 => by omega
  | succ n ih =>
    rcases ih (by omega) with k1 | ⟨b, k1, k2, k3, k4⟩
    · by_cases q : IsAct ops (a + n)
      · exact .inr ⟨a + n, by omega, by omega, q, h.st_upto (c := a + n) (by omega) (by omega) k1⟩
      · refine .inl fun k h1 h2 => ?_
        by_cases e : k = a + n
        · subst e; exact q
        · exact k1 k h1 (by omega)
    · exact .inr ⟨b, k1, by omega, k3, k4⟩
/-- The last thing before a that acts. -/
theorem Reg.last (h : Reg P r nt base ops E M) {i : Nat} : ∀ {a : Nat}, i ≤ a → a ≤ ops.size → (∀ k, i ≤ k → k < a → ¬ IsAct ops k) ∨ ∃ b, i ≤ b ∧ b < a ∧ IsAct ops b ∧ (E (b + 1)).st = (E a).st
  | 0, _, _ => .inl fun k h1 h2 => by omega
  | a + 1, h1, h2 => by
    by_cases e : i = a + 1
    · exact .inl fun k h3 h4 => by omega
    · by_cases q : IsAct ops a
      · exact .inr ⟨a, by omega, by omega, q, rfl⟩
      · rcases h.last (i := i) (a := a) (by omega) (by omega) with k1 | ⟨b, k1, k2, k3, k4⟩
        · refine .inl fun k h3 h4 => ?_
          by_cases e : k = a
          · subst e; exact q
          · exact k1 k h3 (by omega)
        · exact .inr ⟨b, k1, by omega, k3, k4.trans (h.st_same (by omega) q).symm⟩

theorem Abs.mono {j a c : Nat} (h : Abs ops E M j a) (hac : a ≤ c) : Abs ops E M j c := by
  obtain ⟨b, h1, h2, h3⟩ := h; exact ⟨b, h1, by omega, h3⟩
theorem Abs.back {j a c : Nat} (h : Abs ops E M j c) (hn : ∀ k, a ≤ k → k < c → ¬ (IsAct ops k ∧ (E k).wt = true ∧ j < k ∧ tb (M k) j = true)) : Abs ops E M j a := by
  obtain ⟨b, h1, h2, h3, h4, h5⟩ := h
  by_cases e : b < a
  · exact ⟨b, h1, e, h3, h4, h5⟩
  · exact absurd ⟨h3, h4, h1, h5⟩ (hn b (by omega) h2)

/-- What waits behind i operations of the text. -/
theorem Reg.pend (h : Reg P r nt base ops E M) : ∀ {i : Nat}, i ≤ ops.size → ∀ p, p ∈ (E i).pend ↔ ∃ j, j < i ∧ IsFr ops E j ∧ ¬ Abs ops E M j i ∧ p = (base + j, objOf E j)
  | 0, _, p => by rw [h.pend0]; simp
  | i + 1, hi, p => by
    have ih := h.pend (i := i) (by omega) p
    obtain ⟨o, ho⟩ : ∃ o, ops[i]? = some o := ⟨ops[i], by simp [show i < ops.size by omega]⟩
    have frI : IsFr ops E i → freshK (kd o.op) = true ∧ (E i).wt = true := by
      rintro ⟨o', h1, h2⟩
      rw [ho] at h1; injection h1 with h1; subst h1; exact h2
    have actI : IsAct ops i → isActK (kd o.op) = true := by
      rintro ⟨o', h1, h2⟩
      rw [ho] at h1; injection h1 with h1; subst h1; exact h2
    -- nothing is taken up, nothing new
    have plain : (E (i + 1)).pend = (E i).pend → ¬ IsFr ops E i → (∀ j, ¬ (IsAct ops i ∧ (E i).wt = true ∧ j < i ∧ tb (M i) j = true)) → (p ∈ (E (i + 1)).pend ↔ ∃ j, j < i + 1 ∧ IsFr ops E j ∧ ¬ Abs ops E M j (i + 1) ∧ p = (base + j, objOf E j)) := by
      intro e1 e2 e3
      rw [e1, ih]
      constructor
      · rintro ⟨j, a, b, c, d⟩
        exact ⟨j, by omega, b, fun q => c (q.back fun k k1 k2 => by obtain rfl : k = i := by omega
                                                                    exact e3 j), d⟩
      · rintro ⟨j, a, b, c, d⟩
        have : j ≠ i := fun e => e2 (e ▸ b)
        exact ⟨j, by omega, b, fun q => c (q.mono (by omega)), d⟩
    cases hw : (E i).wt with
    | false =>
      refine plain (h.unwanted ho hw).2.2 (fun q => ?_) fun j q => ?_
      · have := (frI q).2; rw [hw] at this; cases this
      · have := q.2.1; rw [hw] at this; cases this
    | true =>
      by_cases ha : isActK (kd o.op) = true
      · rw [(h.act ho hw ha).1, part2_mem.2, ih]
        constructor
        · rintro ⟨⟨j, a, b, c, d⟩, e⟩
          subst d
          rw [show base + j - base = j by omega] at e
          refine ⟨j, by omega, b, fun q => c (q.back fun k k1 k2 => ?_), rfl⟩
          obtain rfl : k = i := by omega
          rintro ⟨_, _, _, q⟩
          rw [e] at q; cases q
        · rintro ⟨j, a, b, c, d⟩
          have hj : j ≠ i := fun e => by subst e; have := (frI b).1; revert this ha; cases kd o.op <;> simp [isActK, freshK]
          refine ⟨⟨j, by omega, b, fun q => c (q.mono (by omega)), d⟩, ?_⟩
          subst d
          rw [show base + j - base = j by omega]
          cases q : tb (M i) j with
          | false => rfl
          | true => exact absurd ⟨i, by omega, by omega, ⟨o, ho, ha⟩, hw, q⟩ c
      · by_cases hf : freshK (kd o.op) = true
        · rw [(h.fresh ho hw hf).2.2, List.mem_cons, ih]
          constructor
          · rintro (rfl | ⟨j, a, b, c, d⟩)
            · exact ⟨i, by omega, ⟨o, ho, hf, hw⟩, fun ⟨b, q1, q2, _⟩ => by omega, rfl⟩
            · exact ⟨j, by omega, b, fun q => c (q.back fun k k1 k2 q' => by
                obtain rfl : k = i := by omega
                exact ha (actI q'.1)), d⟩
          · rintro ⟨j, a, b, c, d⟩
            by_cases e : j = i
            · subst e; exact .inl d
            · exact .inr ⟨j, by omega, b, fun q => c (q.mono (by omega)), d⟩
        · exact plain (h.still ho hw ha hf).2.2 (fun q => hf (frI q).1) fun j q => ha (actI q.1)

/-- The slots behind i operations of the text. -/
def dstOf (ops : Array Oper) (j : Nat) : Option Tmp := (ops[j]?).bind (·.dst)
theorem Reg.slot (h : Reg P r nt base ops E M) : ∀ {i : Nat}, i ≤ ops.size → ∀ t v, (E i).T.get t = some v →
    (∃ j, j < i ∧ dstOf ops j = some t ∧ (∀ j', j' < i → dstOf ops j' = some t → j' ≤ j) ∧ v = (E j).v) ∨ ((∀ j, j < i → dstOf ops j ≠ some t) ∧ (E 0).T.get t = some v)
  | 0, _, t, v, hv => .inr ⟨fun j hj => by omega, hv⟩
  | i + 1, hi, t, v, hv => by
    obtain ⟨o, ho⟩ : ∃ o, ops[i]? = some o := ⟨ops[i], by simp [show i < ops.size by omega]⟩
    have hp := h.put i o ho
    have hd : dstOf ops i = o.dst := by simp [dstOf, ho]
    by_cases e : o.dst = some t
    · refine .inl ⟨i, by omega, by rw [hd, e], fun j' h1 _ => by omega, ?_⟩
      rw [e] at hp
      change ifb (Nat.ble (Nat.succ t) nt) (some ((E i).T.set t (E i).v)) none = _ at hp
      rw [ifb_none] at hp
      have := hp.2
      injection this with this
      rw [← this, Tr.get_set, if_pos rfl] at hv
      injection hv with hv; exact hv.symm
    · have hv' : (E i).T.get t = some v := by
        cases hd' : o.dst with
        | none => rw [hd'] at hp; injection hp with hp; rw [hp]; exact hv
        | some d =>
          rw [hd'] at hp e
          change ifb (Nat.ble (Nat.succ d) nt) (some ((E i).T.set d (E i).v)) none = _ at hp
          rw [ifb_none] at hp
          have := hp.2
          injection this with this
          rw [← this, Tr.get_set, if_neg (fun q => e (by rw [q]))] at hv
          exact hv
      rcases h.slot (i := i) (by omega) t v hv' with ⟨j, a, b, c, d⟩ | ⟨a, b⟩
      · refine .inl ⟨j, by omega, b, fun j' h1 h2 => ?_, d⟩
        by_cases q : j' = i
        · subst q; rw [hd] at h2; exact absurd h2 e
        · exact c j' (by omega) h2
      · refine .inr ⟨fun j hj q => ?_, b⟩
        by_cases q' : j = i
        · subst q'; rw [hd] at q; exact e q
        · exact a j (by omega) q

end
end Go.Det
