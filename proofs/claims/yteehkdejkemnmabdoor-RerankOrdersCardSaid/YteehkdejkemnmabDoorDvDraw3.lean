/- A region whose order is drawn: what its run in the text's order has recorded holds in every order. -/
import Derived.Test.YteehkdejkemnmabDoorDvOrder
import Derived.Orders
set_option linter.unusedVariables false
set_option linter.unusedSimpArgs false
namespace Go.Det
variable {P : Program}

theorem eqOwn_eq {a b : Option Nat} (h : eqOwn a b = true) : a = b := by
  cases a <;> cases b <;> simp only [eqOwn, Bool.false_eq_true, Nat.beq_eq] at h
  · rfl
  · rw [h]

mutual
theorem AV.beq_eq : ∀ {u v : AV}, AV.beq u v = true → u = v
  | .bool a, v, h => by cases v <;> simp only [AV.beq, Bool.false_eq_true, eqBool_eq, beq_iff_eq] at h; rw [h]
  | .int j a, v, h => by cases v <;> simp only [AV.beq, Bool.false_eq_true, ifb_and, eqKind_iff, eqInt_iff] at h; rw [h.1, h.2]
  | .str a, v, h => by
    cases v <;> simp only [AV.beq, Bool.false_eq_true, eqBytes_eq, beq_iff_eq] at h
    congr 1
    apply ByteArray.ext
    exact Array.ext' h
  | .ptr a b, v, h => by cases v <;> simp only [AV.beq, Bool.false_eq_true, ifb_and, Nat.beq_eq] at h; rw [h.1, h.2]
  | .nilPtr, v, h => by cases v <;> simp only [AV.beq, Bool.false_eq_true] at h; rfl
  | .slice a b c d e f, v, h => by
    cases v <;> simp only [AV.beq, Bool.false_eq_true, ifb_and, Nat.beq_eq, eqBool_eq, beq_iff_eq] at h
    obtain ⟨rfl, rfl, rfl, rfl, rfl, rfl⟩ := h
    rfl
  | .nilSlice, v, h => by cases v <;> simp only [AV.beq, Bool.false_eq_true] at h; rfl
  | .map a, v, h => by cases v <;> simp only [AV.beq, Bool.false_eq_true, Nat.beq_eq] at h; rw [h]
  | .nilMap, v, h => by cases v <;> simp only [AV.beq, Bool.false_eq_true] at h; rfl
  | .func f a b, v, h => by
    cases v <;> simp only [AV.beq, Bool.false_eq_true, ifb_and, Nat.beq_eq] at h
    obtain ⟨rfl, h1, h2⟩ := h
    rw [AV.beqs_eq h1, AV.beqs_eq h2]
  | .yield a, v, h => by cases v <;> simp only [AV.beq, Bool.false_eq_true, Nat.beq_eq] at h; rw [h]
  | .nilFunc, v, h => by cases v <;> simp only [AV.beq, Bool.false_eq_true] at h; rfl
  | .nilIface, v, h => by cases v <;> simp only [AV.beq, Bool.false_eq_true] at h; rfl
  | .agg a, v, h => by
    cases v <;> simp only [AV.beq, Bool.false_eq_true] at h
    rw [AV.beqs_eq h]
  | .tuple a, v, h => by
    cases v <;> simp only [AV.beq, Bool.false_eq_true] at h
    rw [AV.beqs_eq h]
  | .vs a b c d e f, v, h => by
    cases v <;> simp only [AV.beq, Bool.false_eq_true, ifb_and, Nat.beq_eq, eqBool_eq, beq_iff_eq] at h
    obtain ⟨h1, rfl, rfl, rfl, rfl, h2⟩ := h
    rw [AV.beqs_eq h1, eqOwn_eq h2]
  | .vptr a b, v, h => by
    cases v <;> simp only [AV.beq, Bool.false_eq_true, ifb_and, Nat.beq_eq] at h
    obtain ⟨h1, rfl⟩ := h
    rw [AV.beqs_eq h1]
  | .iface a b, v, h => by
    cases v <;> simp only [AV.beq, Bool.false_eq_true, ifb_and, Nat.beq_eq] at h
    rw [h.1, AV.beq_eq h.2]
  | .gptr a b, v, h => by cases v <;> simp only [AV.beq, Bool.false_eq_true, ifb_and, Nat.beq_eq] at h; rw [h.1, h.2]
theorem AV.beqs_eq : ∀ {u v : List AV}, AV.beqs u v = true → u = v
  | [], [], h => rfl
  | [], _ :: _, h => absurd h (by simp [AV.beqs])
  | _ :: _, [], h => absurd h (by simp [AV.beqs])
  | a :: x, b :: y, h => by
    simp only [AV.beqs, ifb_and] at h
    rw [AV.beq_eq h.1, AV.beqs_eq h.2]
end

theorem readSame_spec {T : Tr AV} {st : St} {op : Op} {v : AV} (h : readSame P T st op v = true) : ∃ st', aop P T st op = some (.val v st') := by
  unfold readSame at h
  split at h
  · rename_i u st' hu; rw [AV.beq_eq h] at hu; exact ⟨st', hu⟩
  · cases h

/-- What comes of an operation, its calls with it. -/
def ActOk (r : Rec) (st : St) (v : AV) (st1 : St) : OpR → Prop
  | .val u s => u = v ∧ s = st1
  | .call f args => r.call f args st = some (v, st1)
  | .yld l args => yieldA r l args st = some (v, st1)
  | .dfr _ _ => False
/-- What one operation answers, its calls with it; the frame's slots are looked at no more than by 'hT'. -/
theorem act_sound {ρ : Names} {r : Rec} (hc : CodeOk P r) (hk : CallOk P r.call) {T : Tr AV} {st st1 : St} {v : AV} {o : Oper} {x : OpR} (h1 : aop P T st o.op = some x)
    (h2 : ActOk r st v st1 x) {w : World} {tm : Array Value} {df : List Deferred}
    (hH : HR ρ st w) (hT : ∀ x a, opd T x = some a → VR ρ a (evT tm x)) {b : Frame} {ops : Array Oper} {i : Nat} (ho : ops[i]? = some o) (hw : Region.wanted o (yielded ops tm) = true) (rest : List Nat) (k : List Item) (cs : List Frame) :
    ∃ ρ' w' v', Goes ρ st w ρ' st1 w' ∧ HR ρ' st1 w' ∧ VR ρ' v v' ∧
      Steps P (lone (on b tm df (.inRegion ops (i :: rest) :: k)) cs w) (lone (on b (putC tm o.dst v') df (.inRegion ops rest :: k)) cs w') := by
  have hA := aop_sound (P := P) hT hH h1
  have hfin := fun v => finish_on b tm df ops i rest k v
  simp only [ho, Option.bind_some] at hfin
  have notDefer : (∀ f as, x ≠ .dfr f as) → b.roundOf = none ∨ ∀ c, o.op ≠ .defer c := fun hx => .inr fun c hop => by
    rw [hop] at h1
    simp only [aop] at h1
    split at h1
    · simp only [ob_some] at h1
      obtain ⟨r1, _, h4⟩ := h1
      split at h4
      · injection h4 with h4; exact hx _ _ h4.symm
      · cases h4
    · cases h1
  cases x with
  | val u s =>
    obtain ⟨rfl, rfl⟩ := h2
    have hg := stepG_on (P := P) (b := b) (df := df) (k := k) (cs := cs) (w := w) (rest := rest) ho hw (notDefer (fun _ _ => by simp))
    obtain ⟨ρ', w', v', hr, g, H, V⟩ := hA
    refine ⟨ρ', w', v', g, H, V, .one (step_lone_go ?_)⟩
    rw [hg, ← hfin]
    rcases hr with hr | ⟨hr, rfl⟩
    · exact ap_value hr
    · exact ap_skip hr
  | call f args =>
    have hg := stepG_on (P := P) (b := b) (df := df) (k := k) (cs := cs) (w := w) (rest := rest) ho hw (notDefer (fun _ _ => by simp))
    obtain ⟨args', ha, hr⟩ := hA
    obtain ⟨hen, hcall⟩ := hk _ _ _ _ _ h2
    rw [hen] at hr
    obtain ⟨ρ', w', v', fr', g, H, V, hs, hl⟩ := hcall ρ w args' (on b tm df (.inRegion ops (i :: rest) :: k) :: cs) hH ha
    have henter : step P (lone (on b tm df (.inRegion ops (i :: rest) :: k)) cs w) = .next (lone (Frame.enter P f ⟨args'⟩ .normal) (on b tm df (.inRegion ops (i :: rest) :: k) :: cs) w) :=
      step_lone_go (by rw [hg]; exact ap_enter hr (by simp [on]))
    refine ⟨ρ', w', v', g, H, V, .head henter (hs.trans (.one ?_))⟩
    rw [← hfin]; exact st_leave hl
  | yld l args =>
    have hg := stepG_on (P := P) (b := b) (df := df) (k := k) (cs := cs) (w := w) (rest := rest) ho hw (notDefer (fun _ _ => by simp))
    obtain ⟨L, args', hL, ha, hr⟩ := hA
    obtain ⟨f, tmps, as, body, hy, hround⟩ := yield_sound hc h2 hH hL ha
    rw [hy] at hr
    obtain ⟨ρ', w', v', g, H, V, hs⟩ := hround (on b tm df (.inRegion ops (i :: rest) :: k)) cs
    have henter : step P (lone (on b tm df (.inRegion ops (i :: rest) :: k)) cs w) = .next (lone (Frame.round L.blk f tmps as body .normal) (on b tm df (.inRegion ops (i :: rest) :: k) :: cs) w) :=
      step_lone_go (by rw [hg]; exact ap_round hr)
    refine ⟨ρ', w', v', g, H, V, .head henter ?_⟩
    rw [← hfin]; exact hs
  | dfr f args => exact h2.elim

/-! The record. -/
structure Reg (P : Program) (r : Nat → Rec) (nt base : Nat) (ops : Array Oper) (E : Nat → DEnt) (M : Nat → Nat) : Prop where
  want : ∀ i o, ops[i]? = some o → wantedA (E i).T ops.toList o = some (E i).wt
  op : ∀ i o, ops[i]? = some o → ∃ d, ifb (E i).wt (drawOp P (r i) base i (M i) (E i).T (E i).st (E i).pend o) (some ⟨undefA, (E i).st, none, (E i).pend⟩) = some d ∧
    (E (i + 1)).st = d.st ∧ (E (i + 1)).pend = d.pend ∧ (E i).v = d.v ∧ (E i).ob = d.ob
  put : ∀ i o, ops[i]? = some o → putDst nt (E i).T o.dst (E i).v = some (E (i + 1)).T
  clo : ∀ i o j, ops[i]? = some o → tb (M i) j = true → ∃ e ∈ o.after.toList, bindE e = true ∧ (j = e.on ∨ tb (M e.on) j = true)
  bck : ∀ i o, ops[i]? = some o → ∀ e ∈ o.after.toList, bindE e = true → e.on < i
  pair : ∀ i k x y, i < k → ops[i]? = some x → ops[k]? = some y → tb (M k) i = true ∨ apartA ops.toList x y = true
  rds : ∀ i o, ops[i]? = some o → isReadK (kd o.op) = true → (E i).wt = true → ∀ a x, ops[a]? = some x → isActK (kd x.op) = true →
    (a < i → tb (M i) a = true ∨ readSame P (E i).T (E a).st o.op (E i).v = true) ∧ (i ≤ a → tb (M a) i = true ∨ readSame P (E i).T (E (a + 1)).st o.op (E i).v = true)
  pend0 : (E 0).pend = []

def IsAct (ops : Array Oper) (i : Nat) : Prop := ∃ o, ops[i]? = some o ∧ isActK (kd o.op) = true
def IsFr (ops : Array Oper) (E : Nat → DEnt) (i : Nat) : Prop := ∃ o, ops[i]? = some o ∧ freshK (kd o.op) = true ∧ (E i).wt = true
/-- The block of operation j has been taken up by something that acts before level a. -/
def Abs (ops : Array Oper) (E : Nat → DEnt) (M : Nat → Nat) (j a : Nat) : Prop := ∃ b, j < b ∧ b < a ∧ IsAct ops b ∧ (E b).wt = true ∧ tb (M b) j = true
def objOf (E : Nat → DEnt) (j : Nat) : Ob := ((E j).ob).getD (.deferred true)

section
variable {r : Nat → Rec} {nt base : Nat} {ops : Array Oper} {E : Nat → DEnt} {M : Nat → Nat}

theorem kd_pure_of {k : Kd} (h1 : isActK k ≠ true) (h2 : isReadK k ≠ true) (h3 : freshK k ≠ true) : k = .pure := by cases k <;> simp [isActK, isReadK, freshK] at h1 h2 h3 ⊢

/-- What is wanted, kind by kind. -/
theorem Reg.still (h : Reg P r nt base ops E M) {i : Nat} {o : Oper} (ho : ops[i]? = some o) (hw : (E i).wt = true) (h1 : isActK (kd o.op) ≠ true) (h3 : freshK (kd o.op) ≠ true) :
    (∃ st', aop P (E i).T (E i).st o.op = some (.val (E i).v st')) ∧ (E (i + 1)).st = (E i).st ∧ (E (i + 1)).pend = (E i).pend := by
  obtain ⟨d, hd, e1, e2, e3, e4⟩ := h.op i o ho
  rw [hw, ifb_true] at hd
  unfold drawOp at hd
  split at hd
  · simp only [ob_some] at hd
    obtain ⟨x, k1, k2⟩ := hd
    split at k2
    · injection k2 with k2; subst k2; exact ⟨⟨_, by rw [k1, e3]⟩, e1, e2⟩
    · cases k2
  · simp only [ob_some] at hd
    obtain ⟨x, k1, k2⟩ := hd
    split at k2
    · injection k2 with k2; subst k2; exact ⟨⟨_, by rw [k1, e3]⟩, e1, e2⟩
    · cases k2
  · rename_i hk; rw [hk] at h3; exact absurd rfl h3
  · rename_i hk; rw [hk] at h1; exact absurd rfl h1
theorem Reg.fresh (h : Reg P r nt base ops E M) {i : Nat} {o : Oper} (ho : ops[i]? = some o) (hw : (E i).wt = true) (h3 : freshK (kd o.op) = true) :
    freshA P (E i).st.vm (E i).T (base + i) o.op = some ((E i).v, objOf E i) ∧ (E (i + 1)).st = (E i).st ∧ (E (i + 1)).pend = (base + i, objOf E i) :: (E i).pend := by
  obtain ⟨d, hd, e1, e2, e3, e4⟩ := h.op i o ho
  rw [hw, ifb_true] at hd
  unfold drawOp at hd
  split at hd
  · rename_i hk; rw [hk] at h3; cases h3
  · rename_i hk; rw [hk] at h3; cases h3
  · rw [om_some] at hd
    obtain ⟨q, k1, rfl⟩ := hd
    have : objOf E i = q.2 := by unfold objOf; rw [e4]; rfl
    rw [this, e3]
    exact ⟨k1, e1, e2⟩
  · rename_i hk; rw [hk] at h3; cases h3
theorem Reg.act (h : Reg P r nt base ops E M) {i : Nat} {o : Oper} (ho : ops[i]? = some o) (hw : (E i).wt = true) (h3 : isActK (kd o.op) = true) :
    (E (i + 1)).pend = (part2 base (M i) (E i).pend).no ∧ ∃ x, aop P (E i).T (addP (E i).st (part2 base (M i) (E i).pend).yes) o.op = some x ∧
      ActOk (r i) (addP (E i).st (part2 base (M i) (E i).pend).yes) (E i).v (E (i + 1)).st x := by
  obtain ⟨d, hd, e1, e2, e3, e4⟩ := h.op i o ho
  rw [hw, ifb_true] at hd
  unfold drawOp at hd
  split at hd
  · rename_i hk; rw [hk] at h3; cases h3
  · rename_i hk; rw [hk] at h3; cases h3
  · rename_i hk; rw [hk] at h3; cases h3
  · simp only [ob_some] at hd
    obtain ⟨x, k1, k2⟩ := hd
    cases x with
    | val v s => injection k2 with k2; subst k2; exact ⟨e2, _, k1, e3.symm, e1.symm⟩
    | call f args =>
      simp only [om_some] at k2
      obtain ⟨p, k2, rfl⟩ := k2
      exact ⟨e2, _, k1, by show _ = some _; rw [e3, e1]; exact k2⟩
    | yld l args =>
      simp only [om_some] at k2
      obtain ⟨p, k2, rfl⟩ := k2
      exact ⟨e2, _, k1, by show _ = some _; rw [e3, e1]; exact k2⟩
    | dfr f args => cases k2
theorem Reg.unwanted (h : Reg P r nt base ops E M) {i : Nat} {o : Oper} (ho : ops[i]? = some o) (hw : (E i).wt = false) :
    (E i).v = undefA ∧ (E (i + 1)).st = (E i).st ∧ (E (i + 1)).pend = (E i).pend := by
  obtain ⟨d, hd, e1, e2, e3, e4⟩ := h.op i o ho
  rw [hw, ifb_false] at hd
  injection hd with hd; subst hd
  exact ⟨e3, e1, e2⟩

theorem Reg.st_same (h : Reg P r nt base ops E M) {i : Nat} (hi : i < ops.size) (ha : ¬ IsAct ops i) : (E (i + 1)).st = (E i).st := by
  obtain ⟨o, ho⟩ : ∃ o, ops[i]? = some o := ⟨ops[i], by simp [hi]⟩
  cases hw : (E i).wt with
  | false => exact (h.unwanted ho hw).2.1
  | true =>
    by_cases hf : freshK (kd o.op) = true
    · exact (h.fresh ho hw hf).2.1
    · exact (h.still ho hw (fun c => ha ⟨o, ho, c⟩) hf).2.1
theorem Reg.st_upto (h : Reg P r nt base ops E M) {a : Nat} : ∀ {c : Nat}, a ≤ c → c ≤ ops.size → (∀ k, a ≤ k → k < c → ¬ IsAct ops k) → (E c).st = (E a).st
  | 0, h1, _, _ => by obtain rfl : a = 0 := by omega
                      rfl
  | c + 1, h1, h2, h3 => by
    by_cases e : a = c + 1
    · subst e; rfl
    · rw [h.st_same (by omega) (h3 c (by omega) (by omega))]
      exact h.st_upto (by omega) (by omega) fun k h4 h5 => h3 k h4 (by omega)
/-- The first thing from a on that acts. -/
theorem Reg.first (h : Reg P r nt base ops E M) {a c : Nat} (hac : a ≤ c) (hc : c ≤ ops.size) : (∀ k, a ≤ k → k < c → ¬ IsAct ops k) ∨ ∃ b, a ≤ b ∧ b < c ∧ IsAct ops b ∧ (E b).st = (E a).st := by
  obtain ⟨n, rfl⟩ : ∃ n, c = a + n := ⟨c - a, by omega⟩
  clear hac
  induction n with
  | zero => exact .inl fun k h1 h2 => by omega
  | succ n ih =>
    rcases ih (by omega) with k1 | ⟨b, k1, k2, k3, k4⟩
    · by_cases q : IsAct ops (a + n)
      · exact .inr ⟨a + n, by omega, by omega, q, h.st_upto (c := a + n) (by omega) (by omega) k1⟩
      · refine .inl fun k h1 h2 => ?_
        by_cases e : k = a + n
        · subst e; exact q
        · exact k1 k h1 (by omega)
    · exact .inr ⟨b, k1, by omega, k3, k4⟩
/-- The last thing before a that acts. -/
theorem Reg.last (h : Reg P r nt base ops E M) {i : Nat} : ∀ {a : Nat}, i ≤ a → a ≤ ops.size → (∀ k, i ≤ k → k < a → ¬ IsAct ops k) ∨ ∃ b, i ≤ b ∧ b < a ∧ IsAct ops b ∧ (E (b + 1)).st = (E a).st
  | 0, _, _ => .inl fun k h1 h2 => by omega
  | a + 1, h1, h2 => by
    by_cases e : i = a + 1
    · exact .inl fun k h3 h4 => by omega
    · by_cases q : IsAct ops a
      · exact .inr ⟨a, by omega, by omega, q, rfl⟩
      · rcases h.last (i := i) (a := a) (by omega) (by omega) with k1 | ⟨b, k1, k2, k3, k4⟩
        · refine .inl fun k h3 h4 => ?_
          by_cases e : k = a
          · subst e; exact q
          · exact k1 k h3 (by omega)
        · exact .inr ⟨b, k1, by omega, k3, k4.trans (h.st_same (by omega) q).symm⟩

theorem Abs.mono {j a c : Nat} (h : Abs ops E M j a) (hac : a ≤ c) : Abs ops E M j c := by
  obtain ⟨b, h1, h2, h3⟩ := h; exact ⟨b, h1, by omega, h3⟩
theorem Abs.back {j a c : Nat} (h : Abs ops E M j c) (hn : ∀ k, a ≤ k → k < c → ¬ (IsAct ops k ∧ (E k).wt = true ∧ j < k ∧ tb (M k) j = true)) : Abs ops E M j a := by
  obtain ⟨b, h1, h2, h3, h4, h5⟩ := h
  by_cases e : b < a
  · exact ⟨b, h1, e, h3, h4, h5⟩
  · exact absurd ⟨h3, h4, h1, h5⟩ (hn b (by omega) h2)

/-- What waits behind i operations of the text. -/
theorem Reg.pend (h : Reg P r nt base ops E M) : ∀ {i : Nat}, i ≤ ops.size → ∀ p, p ∈ (E i).pend ↔ ∃ j, j < i ∧ IsFr ops E j ∧ ¬ Abs ops E M j i ∧ p = (base + j, objOf E j)
  | 0, _, p => by rw [h.pend0]; simp
  | i + 1, hi, p => by
    have ih := h.pend (i := i) (by omega) p
    obtain ⟨o, ho⟩ : ∃ o, ops[i]? = some o := ⟨ops[i], by simp [show i < ops.size by omega]⟩
    have frI : IsFr ops E i → freshK (kd o.op) = true ∧ (E i).wt = true := by
      rintro ⟨o', h1, h2⟩
      rw [ho] at h1; injection h1 with h1; subst h1; exact h2
    have actI : IsAct ops i → isActK (kd o.op) = true := by
      rintro ⟨o', h1, h2⟩
      rw [ho] at h1; injection h1 with h1; subst h1; exact h2
    -- nothing is taken up, nothing new
    have plain : (E (i + 1)).pend = (E i).pend → ¬ IsFr ops E i → (∀ j, ¬ (IsAct ops i ∧ (E i).wt = true ∧ j < i ∧ tb (M i) j = true)) → (p ∈ (E (i + 1)).pend ↔ ∃ j, j < i + 1 ∧ IsFr ops E j ∧ ¬ Abs ops E M j (i + 1) ∧ p = (base + j, objOf E j)) := by
      intro e1 e2 e3
      rw [e1, ih]
      constructor
      · rintro ⟨j, a, b, c, d⟩
        exact ⟨j, by omega, b, fun q => c (q.back fun k k1 k2 => by obtain rfl : k = i := by omega
                                                                    exact e3 j), d⟩
      · rintro ⟨j, a, b, c, d⟩
        have : j ≠ i := fun e => e2 (e ▸ b)
        exact ⟨j, by omega, b, fun q => c (q.mono (by omega)), d⟩
    cases hw : (E i).wt with
    | false =>
      refine plain (h.unwanted ho hw).2.2 (fun q => ?_) fun j q => ?_
      · have := (frI q).2; rw [hw] at this; cases this
      · have := q.2.1; rw [hw] at this; cases this
    | true =>
      by_cases ha : isActK (kd o.op) = true
      · rw [(h.act ho hw ha).1, part2_mem.2, ih]
        constructor
        · rintro ⟨⟨j, a, b, c, d⟩, e⟩
          subst d
          rw [show base + j - base = j by omega] at e
          refine ⟨j, by omega, b, fun q => c (q.back fun k k1 k2 => ?_), rfl⟩
          obtain rfl : k = i := by omega
          rintro ⟨_, _, _, q⟩
          rw [e] at q; cases q
        · rintro ⟨j, a, b, c, d⟩
          have hj : j ≠ i := fun e => by subst e; have := (frI b).1; revert this ha; cases kd o.op <;> simp [isActK, freshK]
          refine ⟨⟨j, by omega, b, fun q => c (q.mono (by omega)), d⟩, ?_⟩
          subst d
          rw [show base + j - base = j by omega]
          cases q : tb (M i) j with
          | false => rfl
          | true => exact absurd ⟨i, by omega, by omega, ⟨o, ho, ha⟩, hw, q⟩ c
      · by_cases hf : freshK (kd o.op) = true
        · rw [(h.fresh ho hw hf).2.2, List.mem_cons, ih]
          constructor
          · rintro (rfl | ⟨j, a, b, c, d⟩)
            · exact ⟨i, by omega, ⟨o, ho, hf, hw⟩, fun ⟨b, q1, q2, _⟩ => by omega, rfl⟩
            · exact ⟨j, by omega, b, fun q => c (q.back fun k k1 k2 q' => by
                obtain rfl : k = i := by omega
                exact ha (actI q'.1)), d⟩
          · rintro ⟨j, a, b, c, d⟩
            by_cases e : j = i
            · subst e; exact .inl d
            · exact .inr ⟨j, by omega, b, fun q => c (q.mono (by omega)), d⟩
        · exact plain (h.still ho hw ha hf).2.2 (fun q => hf (frI q).1) fun j q => ha (actI q.1)

/-- The slots behind i operations of the text. -/
def dstOf (ops : Array Oper) (j : Nat) : Option Tmp := (ops[j]?).bind (·.dst)
theorem Reg.slot (h : Reg P r nt base ops E M) : ∀ {i : Nat}, i ≤ ops.size → ∀ t v, (E i).T.get t = some v →
    (∃ j, j < i ∧ dstOf ops j = some t ∧ (∀ j', j' < i → dstOf ops j' = some t → j' ≤ j) ∧ v = (E j).v) ∨ ((∀ j, j < i → dstOf ops j ≠ some t) ∧ (E 0).T.get t = some v)
  | 0, _, t, v, hv => .inr ⟨fun j hj => by omega, hv⟩
  | i + 1, hi, t, v, hv => by
    obtain ⟨o, ho⟩ : ∃ o, ops[i]? = some o := ⟨ops[i], by simp [show i < ops.size by omega]⟩
    have hp := h.put i o ho
    have hd : dstOf ops i = o.dst := by simp [dstOf, ho]
    by_cases e : o.dst = some t
    · refine .inl ⟨i, by omega, by rw [hd, e], fun j' h1 _ => by omega, ?_⟩
      rw [e] at hp
      change ifb (Nat.ble (Nat.succ t) nt) (some ((E i).T.set t (E i).v)) none = _ at hp
      rw [ifb_none] at hp
      have := hp.2
      injection this with this
      rw [← this, Tr.get_set, if_pos rfl] at hv
      injection hv with hv; exact hv.symm
    · have hv' : (E i).T.get t = some v := by
        cases hd' : o.dst with
        | none => rw [hd'] at hp; injection hp with hp; rw [hp]; exact hv
        | some d =>
          rw [hd'] at hp e
          change ifb (Nat.ble (Nat.succ d) nt) (some ((E i).T.set d (E i).v)) none = _ at hp
          rw [ifb_none] at hp
          have := hp.2
          injection this with this
          rw [← this, Tr.get_set, if_neg (fun q => e (by rw [q]))] at hv
          exact hv
      rcases h.slot (i := i) (by omega) t v hv' with ⟨j, a, b, c, d⟩ | ⟨a, b⟩
      · refine .inl ⟨j, by omega, b, fun j' h1 h2 => ?_, d⟩
        by_cases q : j' = i
        · subst q; rw [hd] at h2; exact absurd h2 e
        · exact c j' (by omega) h2
      · refine .inr ⟨fun j hj q => ?_, b⟩
        by_cases q' : j = i
        · subst q'; rw [hd] at q; exact e q
        · exact a j (by omega) q

end
end Go.Det
/- A region whose order is drawn: one operation in any order. -/
set_option linter.unusedVariables false
set_option linter.unusedSimpArgs false
namespace Go.Det
variable {P : Program}

def Pn (S : Nat → Bool) (ops : Array Oper) (E : Nat → DEnt) (M : Nat → Nat) (a j : Nat) : Prop := j < ops.size ∧ S j = true ∧ IsFr ops E j ∧ ¬ Abs ops E M j a
def Kn (S : Nat → Bool) (ops : Array Oper) (E : Nat → DEnt) (t : Tmp) (v : AV) : Prop :=
  (∃ j, j < ops.size ∧ S j = true ∧ dstOf ops j = some t ∧ (∀ j', j' < ops.size → S j' = true → dstOf ops j' = some t → j' ≤ j) ∧ v = (E j).v) ∨
  ((∀ j, j < ops.size → S j = true → dstOf ops j ≠ some t) ∧ (E 0).T.get t = some v)
def upd (S : Nat → Bool) (i : Nat) : Nat → Bool := fun j => Nat.beq j i || S j

/-- How things stand when the operations of S have run; a: no act of S stands behind it, none outside before it. -/
structure Inv (nt base : Nat) (ops : Array Oper) (E : Nat → DEnt) (M : Nat → Nat) (ρ0 : Names) (st0 : St) (w0 : World) (S : Nat → Bool) (a : Nat) (ρ : Names) (w : World) (tm : Array Value) : Prop where
  an : a ≤ ops.size
  acts : ∀ k, IsAct ops k → (S k = true ↔ k < a)
  clos : ∀ k, k < ops.size → S k = true → ∀ j, tb (M k) j = true → S j = true
  room : base + ops.size ≤ (E a).st.next
  names : ∀ j, j < ops.size → S j = false → ρ (base + j) = none
  apart : ∀ j, Pn S ops E M a j → (E a).st.heap.get (base + j) = none
  heap : ∃ F : St, (F.next = (E a).st.next ∧ F.gl = (E a).st.gl) ∧ (∀ j, Pn S ops E M a j → F.heap.get (base + j) = some (objOf E j)) ∧ (∀ b, (∀ j, Pn S ops E M a j → b ≠ base + j) → F.heap.get b = (E a).st.heap.get b) ∧
    HR ρ F w ∧ Goes ρ0 st0 w0 ρ F w
  slots : ∀ t v, Kn S ops E t v → ∃ v', tm[t]? = some v' ∧ VR ρ v v'
  size : nt ≤ tm.size

section
variable {r : Nat → Rec} {nt base : Nat} {ops : Array Oper} {E : Nat → DEnt} {M : Nat → Nat} {ρ0 : Names} {st0 : St} {w0 : World} {S : Nat → Bool} {a : Nat} {ρ : Names} {w : World} {tm : Array Value}

theorem upd_iff {i j : Nat} : upd S i j = true ↔ j = i ∨ S j = true := by simp [upd]
theorem upd_false {i j : Nat} (h : upd S i j = false) : j ≠ i ∧ S j = false := by
  constructor
  · intro e; rw [upd_iff.2 (.inl e)] at h; cases h
  · cases q : S j with
    | false => rfl
    | true => rw [upd_iff.2 (.inr q)] at h; cases h
theorem IsAct.lt {k : Nat} (h : IsAct ops k) : k < ops.size := by
  obtain ⟨o, h, _⟩ := h
  obtain ⟨h, _⟩ := Array.getElem?_eq_some_iff.1 h
  exact h

def Ready (S : Nat → Bool) (ops : Array Oper) (o : Oper) : Prop := ∀ e ∈ o.after.toList, bindE e = true → S e.on = true ∧ e.on < ops.size

theorem Inv.before (hR : Reg P r nt base ops E M) (hI : Inv nt base ops E M ρ0 st0 w0 S a ρ w tm) {i : Nat} {o : Oper} (ho : ops[i]? = some o) (hr : Ready S ops o) {j : Nat} (h : tb (M i) j = true) : S j = true := by
  obtain ⟨e, h1, h2, h3⟩ := hR.clo i o j ho h
  obtain ⟨k1, k2⟩ := hr e h1 h2
  rcases h3 with rfl | h3
  · exact k1
  · exact hI.clos _ k2 k1 j h3

theorem Inv.relevel (hR : Reg P r nt base ops E M) (hI : Inv nt base ops E M ρ0 st0 w0 S a ρ w tm) {c : Nat} (hac : a ≤ c) (hc : c ≤ ops.size) (hn : ∀ k, a ≤ k → k < c → ¬ IsAct ops k) : Inv nt base ops E M ρ0 st0 w0 S c ρ w tm := by
  have hs := hR.st_upto hac hc hn
  have hp : ∀ j, Pn S ops E M c j ↔ Pn S ops E M a j := fun j =>
    ⟨fun ⟨h1, h2, h3, h4⟩ => ⟨h1, h2, h3, fun q => h4 (q.mono hac)⟩, fun ⟨h1, h2, h3, h4⟩ => ⟨h1, h2, h3, fun q => h4 (q.back fun k k1 k2 q' => hn k k1 k2 q'.1)⟩⟩
  refine ⟨hc, fun k hk => ?_, hI.clos, by rw [hs]; exact hI.room, hI.names, fun j hj => by rw [hs]; exact hI.apart j ((hp j).1 hj), ?_, hI.slots, hI.size⟩
  · rw [hI.acts k hk]
    constructor
    · intro h; omega
    · intro h
      by_cases q : k < a
      · exact q
      · exact absurd hk (hn k (by omega) h)
  · obtain ⟨F, ⟨f1, fg⟩, f2, f3, f4, f5⟩ := hI.heap
    exact ⟨F, by rw [hs]; exact ⟨f1, fg⟩, fun j hj => f2 j ((hp j).1 hj), fun b hb => by rw [hs]; exact f3 b fun j hj => hb j ((hp j).2 hj), f4, f5⟩

theorem Inv.sub (hI : Inv nt base ops E M ρ0 st0 w0 S a ρ w tm) {F : St} (f3 : ∀ b, (∀ j, Pn S ops E M a j → b ≠ base + j) → F.heap.get b = (E a).st.heap.get b) : ∀ b o, (E a).st.heap.get b = some o → F.heap.get b = some o := by
  intro b o hb
  rw [f3 b fun j hj e => ?_]
  · exact hb
  · subst e; rw [hI.apart j hj] at hb; cases hb
theorem Inv.small (hI : Inv nt base ops E M ρ0 st0 w0 S a ρ w tm) : HR ρ (E a).st w := by
  obtain ⟨F, ⟨f1, fg⟩, f2, f3, f4, f5⟩ := hI.heap
  exact f4.ext (Nat.le_of_eq f1) (hI.sub f3) fg.symm

/-- What an operation looks at. -/
theorem Inv.seen (hR : Reg P r nt base ops E M) (hI : Inv nt base ops E M ρ0 st0 w0 S a ρ w tm) {i : Nat} {o : Oper} (ho : ops[i]? = some o) (hS : S i = false) (hr : Ready S ops o) :
    ∃ T' : Tr AV, TR ρ nt T' tm ∧ ∀ t, t ∈ looks ops.toList o → (E i).T.get t = T'.get t := by
  have hi : i < ops.size := (Array.getElem?_eq_some_iff.1 ho).1
  have behind : ∀ j' t, i < j' → j' < ops.size → S j' = true → t ∈ looks ops.toList o → dstOf ops j' ≠ some t := by
    intro j' t h1 h2 h3 h4 h5
    have hx : ops[j']? = some ops[j'] := by simp [h2]
    have hd : ops[j'].dst = some t := by simpa [dstOf, hx] using h5
    rcases hR.pair i j' o ops[j'] h1 ho hx with q | q
    · have := hI.clos j' h2 h3 i q
      rw [hS] at this; cases this
    · exact (apartA_spec q).2.1 t hd h4
  obtain ⟨T', hT'⟩ := restrict (E i).T (looks ops.toList o)
  refine ⟨T', ⟨hI.size, fun t v hv => ?_⟩, fun t ht => by rw [hT' t, if_pos ht]⟩
  rw [hT' t] at hv
  split at hv
  rotate_left
  · cases hv
  rename_i ht
  apply hI.slots
  rcases hR.slot (Nat.le_of_lt hi) t v hv with ⟨j, h1, h2, h3, h4⟩ | ⟨h1, h2⟩
  · have hx : ops[j]? = some ops[j] := by simp [show j < ops.size by omega]
    have hd : ops[j].dst = some t := by simpa [dstOf, hx] using h2
    refine .inl ⟨j, by omega, ?_, h2, fun j' k1 k2 k3 => ?_, h4⟩
    · rcases hR.pair j i ops[j] o h1 hx ho with q | q
      · exact hI.before hR ho hr q
      · exact absurd ht ((apartA_spec q).1 t hd)
    · by_cases q : j' < i
      · exact h3 j' q k3
      · by_cases q' : j' = i
        · subst q'; rw [hS] at k2; cases k2
        · exact absurd k3 (behind j' t (by omega) k1 k2 ht)
  · refine .inr ⟨fun j k1 k2 k3 => ?_, h2⟩
    by_cases q : j < i
    · exact h1 j q k3
    · by_cases q' : j = i
      · subst q'; rw [hS] at k2; cases k2
      · exact absurd k3 (behind j t (by omega) k1 k2 ht)

theorem Inv.slots' (hR : Reg P r nt base ops E M) (hI : Inv nt base ops E M ρ0 st0 w0 S a ρ w tm) {i : Nat} {o : Oper} (ho : ops[i]? = some o) (hS : S i = false) {ρ' : Names} (hle : ρ.le ρ') {v' : Value} (hv : VR ρ' (E i).v v') :
    ∀ t v, Kn (upd S i) ops E t v → ∃ u, (putC tm o.dst v')[t]? = some u ∧ VR ρ' v u := by
  have hi : i < ops.size := (Array.getElem?_eq_some_iff.1 ho).1
  have hdi : dstOf ops i = o.dst := by simp [dstOf, ho]
  intro t v hk
  by_cases e : o.dst = some t
  · have hev : v = (E i).v := by
      rcases hk with ⟨j, h1, h2, h3, h4, h5⟩ | ⟨h1, h2⟩
      · by_cases q : j = i
        · rw [h5, q]
        · exfalso
          have hj : S j = true := (upd_iff.1 h2).resolve_left q
          have hlt : i < j := by
            have := h4 i hi (upd_iff.2 (.inl rfl)) (by rw [hdi, e])
            omega
          have hx : ops[j]? = some ops[j] := by simp [h1]
          have hd : ops[j].dst = some t := by simpa [dstOf, hx] using h3
          rcases hR.pair i j o ops[j] hlt ho hx with q' | q'
          · have := hI.clos j h1 hj i q'
            rw [hS] at this; cases this
          · exact (apartA_spec q').2.2.1 t e hd
      · exact absurd (by rw [hdi, e]) (h1 i hi (upd_iff.2 (.inl rfl)))
    subst hev
    have hp := hR.put i o ho
    rw [e] at hp
    change ifb (Nat.ble (Nat.succ t) nt) (some ((E i).T.set t (E i).v)) none = _ at hp
    rw [ifb_none] at hp
    have ht : t < tm.size := Nat.lt_of_lt_of_le (of_ble hp.1) hI.size
    exact ⟨v', by simp [putC, e, ht], hv⟩
  · have : Kn S ops E t v := by
      rcases hk with ⟨j, h1, h2, h3, h4, h5⟩ | ⟨h1, h2⟩
      · have q : j ≠ i := fun q => by subst q; rw [hdi] at h3; exact e h3
        exact .inl ⟨j, h1, (upd_iff.1 h2).resolve_left q, h3, fun j' k1 k2 k3 => h4 j' k1 (upd_iff.2 (.inr k2)) k3, h5⟩
      · exact .inr ⟨fun j k1 k2 => h1 j k1 (upd_iff.2 (.inr k2)), h2⟩
    obtain ⟨u, h1, h2⟩ := hI.slots t v this
    refine ⟨u, ?_, h2.mono hle⟩
    cases hd : o.dst with
    | none => exact h1
    | some d =>
      rw [hd] at e
      show (tm.setIfInBounds d v')[t]? = some u
      rw [Array.getElem?_setIfInBounds, if_neg (fun q => e (by rw [q]))]
      exact h1

theorem putC_size (tm : Array Value) (d : Option Tmp) (v : Value) : (putC tm d v).size = tm.size := by cases d <;> simp [putC]

theorem Inv.clos' (hR : Reg P r nt base ops E M) (hI : Inv nt base ops E M ρ0 st0 w0 S a ρ w tm) {i : Nat} {o : Oper} (ho : ops[i]? = some o) (hr : Ready S ops o) :
    ∀ k, k < ops.size → upd S i k = true → ∀ j, tb (M k) j = true → upd S i j = true := by
  intro k h1 h2 j h3
  rcases upd_iff.1 h2 with rfl | h2
  · exact upd_iff.2 (.inr (hI.before hR ho hr h3))
  · exact upd_iff.2 (.inr (hI.clos k h1 h2 j h3))

/-- Nothing acts between the level and an act that is ready. -/
theorem Inv.between (hR : Reg P r nt base ops E M) (hI : Inv nt base ops E M ρ0 st0 w0 S a ρ w tm) {i : Nat} {o : Oper} (ho : ops[i]? = some o) (hS : S i = false) (hr : Ready S ops o) (ha : isActK (kd o.op) = true) :
    a ≤ i ∧ ∀ k, a ≤ k → k < i → ¬ IsAct ops k := by
  refine ⟨?_, fun k h1 h2 h3 => ?_⟩
  · have := hI.acts i ⟨o, ho, ha⟩
    rw [hS] at this
    simp at this
    omega
  · obtain ⟨x, hx, hxa⟩ := h3
    rcases hR.pair k i x o h2 hx ho with q | q
    · have := (hI.acts k ⟨x, hx, hxa⟩).1 (hI.before hR ho hr q)
      omega
    · exact (apartA_spec q).2.2.2 ⟨hxa, ha⟩

/-- An operation that leaves the heap alone has run. -/
theorem Inv.quiet (hR : Reg P r nt base ops E M) (hI : Inv nt base ops E M ρ0 st0 w0 S a ρ w tm) {i : Nat} {o : Oper} (ho : ops[i]? = some o) (hS : S i = false) (hr : Ready S ops o)
    (hf : ¬ IsFr ops E i) (ha : isActK (kd o.op) = true → (E i).wt = false) {v' : Value} (hv : VR ρ (E i).v v') : ∃ a', Inv nt base ops E M ρ0 st0 w0 (upd S i) a' ρ w (putC tm o.dst v') := by
  have hi : i < ops.size := (Array.getElem?_eq_some_iff.1 ho).1
  have hsl := hI.slots' hR ho hS (Names.le_refl ρ) hv
  have hcl := hI.clos' hR ho hr
  by_cases hact : isActK (kd o.op) = true
  · obtain ⟨h1, h2⟩ := hI.between hR ho hS hr hact
    have hI' := hI.relevel hR h1 (Nat.le_of_lt hi) h2
    have hw := ha hact
    have hs := (hR.unwanted ho hw).2.1
    have hp : ∀ j, Pn (upd S i) ops E M (i + 1) j ↔ Pn S ops E M i j := fun j => by
      constructor
      · rintro ⟨k1, k2, k3, k4⟩
        have : j ≠ i := fun e => hf (e ▸ k3)
        exact ⟨k1, (upd_iff.1 k2).resolve_left this, k3, fun q => k4 (q.mono (by omega))⟩
      · rintro ⟨k1, k2, k3, k4⟩
        refine ⟨k1, upd_iff.2 (.inr k2), k3, fun q => k4 (q.back fun k q1 q2 q3 => ?_)⟩
        obtain rfl : k = i := by omega
        rw [hw] at q3; cases q3.2.1
    obtain ⟨F, ⟨f1, fg⟩, f2, f3, f4, f5⟩ := hI'.heap
    refine ⟨i + 1, by omega, fun k hk => ?_, hcl, by rw [hs]; exact hI'.room, fun j h3 h4 => hI.names j h3 (upd_false h4).2, fun j hj => by rw [hs]; exact hI'.apart j ((hp j).1 hj),
      ⟨F, by rw [hs]; exact ⟨f1, fg⟩, fun j hj => f2 j ((hp j).1 hj), fun b hb => by rw [hs]; exact f3 b fun j hj => hb j ((hp j).2 hj), f4, f5⟩, hsl, by rw [putC_size]; exact hI.size⟩
    rw [upd_iff, hI'.acts k hk]
    omega
  · have hp : ∀ j, Pn (upd S i) ops E M a j ↔ Pn S ops E M a j := fun j => by
      constructor
      · rintro ⟨k1, k2, k3, k4⟩
        have : j ≠ i := fun e => hf (e ▸ k3)
        exact ⟨k1, (upd_iff.1 k2).resolve_left this, k3, k4⟩
      · rintro ⟨k1, k2, k3, k4⟩
        exact ⟨k1, upd_iff.2 (.inr k2), k3, k4⟩
    obtain ⟨F, ⟨f1, fg⟩, f2, f3, f4, f5⟩ := hI.heap
    refine ⟨a, hI.an, fun k hk => ?_, hcl, hI.room, fun j h3 h4 => hI.names j h3 (upd_false h4).2, fun j hj => hI.apart j ((hp j).1 hj),
      ⟨F, ⟨f1, fg⟩, fun j hj => f2 j ((hp j).1 hj), fun b hb => f3 b fun j hj => hb j ((hp j).2 hj), f4, f5⟩, hsl, by rw [putC_size]; exact hI.size⟩
    have hne : k ≠ i := fun e => by
      subst e
      obtain ⟨o', h1, h2⟩ := hk
      rw [ho] at h1; injection h1 with h1; subst h1
      exact hact h2
    rw [upd_iff, ← hI.acts k hk]
    simp [hne]

/-- An operation that makes a block has run. -/
theorem Inv.made (hR : Reg P r nt base ops E M) (hI : Inv nt base ops E M ρ0 st0 w0 S a ρ w tm) (h0 : st0.next ≤ base) {i : Nat} {o : Oper} (ho : ops[i]? = some o) (hS : S i = false) (hr : Ready S ops o)
    (hf : freshK (kd o.op) = true) (hw : (E i).wt = true) {L : Loc} {x : Obj} (hL : L.blk = w.heap.size) {v' : Value} (hv : VR (ρ.set (base + i) L) (E i).v v') (hO : OR (ρ.set (base + i) L) L (objOf E i) (some x)) :
    Inv nt base ops E M ρ0 st0 w0 (upd S i) a (ρ.set (base + i) L) (worldNew w x) (putC tm o.dst v') := by
  have hi : i < ops.size := (Array.getElem?_eq_some_iff.1 ho).1
  have hn := hI.names i hi hS
  have hsm := hI.small
  have hna : ¬ isActK (kd o.op) = true := fun q => by revert hf q; cases kd o.op <;> simp [isActK, freshK]
  have hab : ¬ Abs ops E M i a := by
    rintro ⟨b, h1, h2, h3, h4, h5⟩
    have := hI.clos b h3.lt ((hI.acts b h3).2 h2) i h5
    rw [hS] at this; cases this
  have hfr : IsFr ops E i := ⟨o, ho, hf, hw⟩
  have hpi : Pn (upd S i) ops E M a i := ⟨hi, upd_iff.2 (.inl rfl), hfr, hab⟩
  have hp : ∀ j, Pn (upd S i) ops E M a j ↔ j = i ∨ Pn S ops E M a j := fun j => by
    constructor
    · rintro ⟨k1, k2, k3, k4⟩
      rcases upd_iff.1 k2 with e | k2
      · exact .inl e
      · exact .inr ⟨k1, k2, k3, k4⟩
    · rintro (rfl | ⟨k1, k2, k3, k4⟩)
      · exact hpi
      · exact ⟨k1, upd_iff.2 (.inr k2), k3, k4⟩
  obtain ⟨F, ⟨f1, fg⟩, f2, f3, f4, f5⟩ := hI.heap
  have put : ∀ b, (F.put (base + i) (objOf E i)).heap.get b = if b = base + i then some (objOf E i) else F.heap.get b := fun b => Tr.get_set ..
  refine ⟨hI.an, fun k hk => ?_, hI.clos' hR ho hr, hI.room, fun j h3 h4 => ?_, fun j hj => ?_, ⟨F.put (base + i) (objOf E i), ⟨f1, fg⟩, fun j hj => ?_, fun b hb => ?_, ?_, ?_⟩, hI.slots' hR ho hS (Names.set_le L hn) hv, by rw [putC_size]; exact hI.size⟩
  · have hne : k ≠ i := fun e => by
      subst e
      obtain ⟨o', h1, h2⟩ := hk
      rw [ho] at h1; injection h1 with h1; subst h1
      exact hna h2
    rw [upd_iff, ← hI.acts k hk]
    simp [hne]
  · obtain ⟨k1, k2⟩ := upd_false h4
    have := hI.names j h3 k2
    simp only [Names.set]
    rw [if_neg (by omega)]; exact this
  · rcases (hp j).1 hj with rfl | hj
    · cases q : (E a).st.heap.get (base + j) with
      | none => rfl
      | some o' => obtain ⟨K, hK, _⟩ := hsm.obj _ _ q; rw [hn] at hK; cases hK
    · exact hI.apart j hj
  · rw [put]
    rcases (hp j).1 hj with rfl | hj
    · rw [if_pos rfl]
    · by_cases e : j = i
      · subst e; rw [if_pos rfl]
      · rw [if_neg (by omega)]; exact f2 j hj
  · rw [put, if_neg (hb i hpi)]
    exact f3 b fun j hj => hb j ((hp j).2 (.inr hj))
  · exact f4.newAt hn (by rw [f1]; have := hI.room; omega) _ L x hL hO
  · exact f5.newAt (by omega) hn _ L x hL

/-- An act has run. -/
theorem Inv.acted (hR : Reg P r nt base ops E M) {i : Nat} (hI : Inv nt base ops E M ρ0 st0 w0 S i ρ w tm) {o : Oper} (ho : ops[i]? = some o) (hS : S i = false) (hr : Ready S ops o)
    (ha : isActK (kd o.op) = true) (hw : (E i).wt = true) : HR ρ (addP (E i).st (part2 base (M i) (E i).pend).yes) w ∧
      ∀ ρ' w' v', Goes ρ (addP (E i).st (part2 base (M i) (E i).pend).yes) w ρ' (E (i + 1)).st w' → HR ρ' (E (i + 1)).st w' → VR ρ' (E i).v v' →
        Inv nt base ops E M ρ0 st0 w0 (upd S i) (i + 1) ρ' w' (putC tm o.dst v') := by
  have hi : i < ops.size := (Array.getElem?_eq_some_iff.1 ho).1
  have hfr : ¬ IsFr ops E i := by
    rintro ⟨o', h1, h2, _⟩
    rw [ho] at h1; injection h1 with h1; subst h1
    revert ha h2; cases kd o.op <;> simp [isActK, freshK]
  obtain ⟨F, ⟨f1, fg⟩, f2, f3, f4, f5⟩ := hI.heap
  have yes : ∀ p, p ∈ (part2 base (M i) (E i).pend).yes → ∃ j, j < i ∧ tb (M i) j = true ∧ Pn S ops E M i j ∧ p = (base + j, objOf E j) := by
    intro p hp
    obtain ⟨h1, h2⟩ := part2_mem.1.1 hp
    obtain ⟨j, k1, k2, k3, rfl⟩ := (hR.pend (Nat.le_of_lt hi) p).1 h1
    rw [show base + j - base = j by omega] at h2
    exact ⟨j, k1, h2, ⟨by omega, hI.before hR ho hr h2, k2, k3⟩, rfl⟩
  have hfun : ∀ p ∈ (part2 base (M i) (E i).pend).yes, ∀ q ∈ (part2 base (M i) (E i).pend).yes, p.1 = q.1 → p.2 = q.2 := by
    intro p hp q hq e
    obtain ⟨j, _, _, _, rfl⟩ := yes p hp
    obtain ⟨j', _, _, _, rfl⟩ := yes q hq
    have : j = j' := by simp at e; exact e
    rw [this]
  generalize hA : addP (E i).st (part2 base (M i) (E i).pend).yes = A
  obtain ⟨g1, g2⟩ := addP_get _ (E i).st hfun
  rw [hA] at g1 g2
  have hAn : A.next = (E i).st.next := by rw [← hA]; exact addP_next _ _
  have hAF : ∀ b o, A.heap.get b = some o → F.heap.get b = some o := by
    intro b o' hb
    by_cases c : ∃ p ∈ (part2 base (M i) (E i).pend).yes, p.1 = b
    · obtain ⟨p, hp, rfl⟩ := c
      rw [g1 p hp] at hb
      obtain ⟨j, _, _, h3, rfl⟩ := yes p hp
      injection hb with hb; subst hb
      exact f2 j h3
    · rw [g2 b fun p hp e => c ⟨p, hp, e⟩] at hb
      exact hI.sub f3 b o' hb
  refine ⟨f4.ext (by rw [f1, hAn]; exact Nat.le_refl _) hAF (by rw [fg, ← hA, addP_gl]), fun ρ' w' v' g H V => ?_⟩
  obtain ⟨F', ⟨q1, qg⟩, q2, q3⟩ := exists_add (E (i + 1)).st base (objOf E) (fun j => Pn (upd S i) ops E M (i + 1) j) ops.size
  -- what waits on
  have wait : ∀ j, Pn (upd S i) ops E M (i + 1) j → Pn S ops E M i j ∧ A.heap.get (base + j) = none := by
    rintro j ⟨k1, k2, k3, k4⟩
    have hne : j ≠ i := fun e => hfr (e ▸ k3)
    have hp : Pn S ops E M i j := ⟨k1, (upd_iff.1 k2).resolve_left hne, k3, fun q => k4 (q.mono (by omega))⟩
    refine ⟨hp, ?_⟩
    rw [g2 (base + j) fun p hp' e => ?_]
    · exact hI.apart j hp
    · obtain ⟨j', h1, h2, _, rfl⟩ := yes p hp'
      have : j' = j := by simp at e; exact e
      subst this
      exact k4 ⟨i, h1, by omega, ⟨o, ho, ha⟩, hw, h2⟩
  have hF' : ∀ b o, F'.heap.get b = some o → (E (i + 1)).st.heap.get b = some o ∨ (F.heap.get b = some o ∧ A.heap.get b = none) := by
    intro b o' hb
    by_cases c : ∃ j, j < ops.size ∧ Pn (upd S i) ops E M (i + 1) j ∧ b = base + j
    · obtain ⟨j, h1, h2, rfl⟩ := c
      rw [q2 j h1 h2] at hb
      injection hb with hb; subst hb
      obtain ⟨k1, k2⟩ := wait j h2
      exact .inr ⟨f2 j k1, k2⟩
    · rw [q3 b fun j h1 h2 e => c ⟨j, h1, h2, e⟩] at hb
      exact .inl hb
  obtain ⟨HF, GF⟩ := f4.frame hAF (hAn.trans f1.symm) g H q1 hF' qg
  refine ⟨by omega, fun k hk => ?_, hI.clos' hR ho hr, ?_, fun j h3 h4 => ?_, fun j hj => ?_, ⟨F', ⟨q1, qg⟩, fun j hj => q2 j hj.1 hj, fun b hb => q3 b fun j h1 h2 => hb j h2, HF, f5.trans GF⟩, hI.slots' hR ho hS g.le V, by rw [putC_size]; exact hI.size⟩
  · rw [upd_iff, hI.acts k hk]; omega
  · have := g.next; have := hI.room; omega
  · obtain ⟨k1, k2⟩ := upd_false h4
    have hn := hI.names j h3 k2
    cases q : ρ' (base + j) with
    | none => rfl
    | some L =>
      rcases g.fresh _ _ q with q | ⟨q, _⟩
      · rw [hn] at q; cases q
      · have := hI.room; omega
  · obtain ⟨k1, k2⟩ := wait j hj
    cases q : (E (i + 1)).st.heap.get (base + j) with
    | none => rfl
    | some o' =>
      exfalso
      obtain ⟨L, hL, _⟩ := H.obj _ _ q
      obtain ⟨L0, hL0, _⟩ := f4.obj _ _ (f2 j k1)
      have e := g.le _ _ hL0
      rw [hL] at e; injection e with e; subst e
      obtain ⟨b0, o0, L1, z1, z2, z3⟩ := g.img _ _ _ q hL (f4.lt _ _ hL0).2
      have := f4.inj _ _ _ _ _ _ (hAF _ _ z1) (f2 j k1) z2 hL0 z3
      subst this
      rw [k2] at z1; cases z1

/-- One operation that is ready. -/
theorem Inv.step (hc : ∀ i, CodeOk P (r i)) (hk : ∀ i, CallOk P (r i).call) (hR : Reg P r nt base ops E M) (hI : Inv nt base ops E M ρ0 st0 w0 S a ρ w tm) (h0 : st0.next ≤ base) {i : Nat} {o : Oper} (ho : ops[i]? = some o) (hS : S i = false) (hr : Ready S ops o)
    {b : Frame} {df : List Deferred} (rest : List Nat) (k : List Item) (cs : List Frame) :
    ∃ a' ρ' w' tm', Inv nt base ops E M ρ0 st0 w0 (upd S i) a' ρ' w' tm' ∧ Steps P (lone (on b tm df (.inRegion ops (i :: rest) :: k)) cs w) (lone (on b tm' df (.inRegion ops rest :: k)) cs w') := by
  have hi : i < ops.size := (Array.getElem?_eq_some_iff.1 ho).1
  obtain ⟨T', hT', hag⟩ := hI.seen hR ho hS hr
  have hwant := hR.want i o ho
  rw [wantedA_congr hag] at hwant
  have hw := wantedA_sound hT' hwant
  have hops := opd_looks hag
  have isFr : IsFr ops E i → freshK (kd o.op) = true ∧ (E i).wt = true := by
    rintro ⟨o', h1, h2⟩
    rw [ho] at h1; injection h1 with h1; subst h1; exact h2
  cases hwt : (E i).wt with
  | false =>
    rw [hwt] at hw
    have hv : VR ρ (E i).v Go.undef := by rw [(hR.unwanted ho hwt).1]; exact .tuple .nil
    obtain ⟨a', hI'⟩ := hI.quiet hR ho hS hr (fun q => by have := (isFr q).2; rw [hwt] at this; cases this) (fun _ => hwt) hv
    exact ⟨a', ρ, w, _, hI', .one (st_unwanted ho hw)⟩
  | true =>
    rw [hwt] at hw
    have run1 : ∀ {v' : Value} {w' : World}, (∀ c, o.op ≠ .defer c) → (execOp (evT tm) o).run P w = .ok (.value v') w' → Steps P (lone (on b tm df (.inRegion ops (i :: rest) :: k)) cs w) (lone (on b (putC tm o.dst v') df (.inRegion ops rest :: k)) cs w') := by
      intro v' w' hd hrun
      have hfin := finish_on b tm df ops i rest k v'
      simp only [ho, Option.bind_some] at hfin
      refine .one (step_lone_go ?_)
      rw [stepG_on ho hw (.inr hd), ← hfin]
      exact ap_value hrun
    by_cases ha : isActK (kd o.op) = true
    · obtain ⟨h1, h2⟩ := hI.between hR ho hS hr ha
      have hI' := hI.relevel hR h1 (Nat.le_of_lt hi) h2
      obtain ⟨HA, fin⟩ := hI'.acted hR ho hS hr ha hwt
      obtain ⟨_, x, hx, hx2⟩ := hR.act ho hwt ha
      rw [aop_congr hops] at hx
      obtain ⟨ρ', w', v', g, H, V, hs⟩ := act_sound (hc i) (hk i) hx hx2 HA (evT_sound hT') (b := b) (df := df) ho hw rest k cs
      exact ⟨i + 1, ρ', w', _, fin ρ' w' v' g H V, hs⟩
    · have hnd : ∀ c, o.op ≠ .defer c := fun c e => ha (by rw [e]; rfl)
      by_cases hf : freshK (kd o.op) = true
      · have hfa := (hR.fresh ho hwt hf).1
        rw [freshA_congr hops] at hfa
        obtain ⟨v', x, tot, k1, k2⟩ := fresh_sound (w := w) (ρ := ρ) (evT_sound hT') hfa
        have hn := hI.names i hi hS
        obtain ⟨k3, k4⟩ := k2 _ (Names.set_le ⟨w.heap.size, 0, tot⟩ hn) (Names.set_same _ _ _)
        exact ⟨a, _, _, _, hI.made hR h0 ho hS hr hf hwt rfl k3 k4, run1 hnd k1⟩
      · -- what looks only
        have hst : stillK (kd o.op) = true := by
          revert ha hf; cases kd o.op <;> simp [isActK, freshK, stillK]
        obtain ⟨⟨s1, hs1⟩, _, _⟩ := hR.still ho hwt ha hf
        have hval : ∃ s2, aop P (E i).T (E a).st o.op = some (.val (E i).v s2) := by
          by_cases hrd : isReadK (kd o.op) = true
          · have rd := fun b hb => hR.rds i o ho hrd hwt b hb
            by_cases hle : a ≤ i
            · rcases hR.first hle (Nat.le_of_lt hi) with q | ⟨c, c1, c2, c3, c4⟩
              · rw [← hR.st_upto hle (Nat.le_of_lt hi) q]; exact ⟨_, hs1⟩
              · obtain ⟨x, hx, hxa⟩ := c3
                rcases (rd c x hx hxa).1 c2 with q | q
                · have := (hI.acts c ⟨x, hx, hxa⟩).1 (hI.before hR ho hr q)
                  omega
                · rw [c4] at q; exact readSame_spec q
            · rcases hR.last (i := i) (a := a) (by omega) hI.an with q | ⟨c, c1, c2, c3, c4⟩
              · rw [hR.st_upto (a := i) (c := a) (by omega) hI.an q]; exact ⟨_, hs1⟩
              · obtain ⟨x, hx, hxa⟩ := c3
                rcases (rd c x hx hxa).2 c1 with q | q
                · have := hI.clos c (IsAct.lt ⟨x, hx, hxa⟩) ((hI.acts c ⟨x, hx, hxa⟩).2 c2) i q
                  rw [hS] at this; cases this
                · rw [c4] at q; exact readSame_spec q
          · exact ⟨_, aop_pure (kd_pure_of ha hrd hf) hs1 _⟩
        obtain ⟨s2, hs2⟩ := hval
        rw [aop_congr hops] at hs2
        obtain ⟨v, e, v', k1, k2⟩ := still_sound (evT_sound hT') hI.small hs2 hst
        injection e with e _
        subst e
        obtain ⟨a', hI'⟩ := hI.quiet hR ho hS hr (fun q => hf (isFr q).1) (fun q => absurd q ha) k2
        exact ⟨a', ρ, w, _, hI', run1 hnd k1⟩

end
end Go.Det

/- A region whose order is drawn: every order. -/
set_option linter.unusedVariables false
set_option linter.unusedSimpArgs false
namespace Go.Det
variable {P : Program}

def cntF (S : Nat → Bool) : Nat → Nat
  | 0 => 0
  | n + 1 => cntF S n + (if S n = true then 0 else 1)
theorem cntF_congr {S S' : Nat → Bool} : ∀ {n : Nat}, (∀ j, j < n → S j = S' j) → cntF S n = cntF S' n
  | 0, _ => rfl
  | n + 1, h => by rw [cntF, cntF, cntF_congr fun j hj => h j (by omega), h n (by omega)]
theorem cntF_upd {S : Nat → Bool} {i : Nat} (hS : S i = false) : ∀ {n : Nat}, i < n → cntF (upd S i) n + 1 = cntF S n
  | n + 1, h => by
    rw [cntF, cntF]
    by_cases e : i = n
    · subst e
      rw [cntF_congr (S := upd S i) (S' := S) fun j hj => by
        have : Nat.beq j i = false := beq_f (by omega)
        simp [upd, this]]
      rw [hS, if_pos (upd_iff.2 (.inl rfl))]
      simp
    · have ih := cntF_upd hS (n := n) (by omega)
      have : (upd S i n = true) ↔ (S n = true) := by rw [upd_iff]; constructor
                                                     · rintro (q | q)
                                                       · exact absurd q.symm e
                                                       · exact q
                                                     · exact .inr
      by_cases q : S n = true
      · rw [if_pos q, if_pos (this.2 q)]; omega
      · rw [if_neg q, if_neg (fun z => q (this.1 z))]; omega
theorem cntF_zero {S : Nat → Bool} : ∀ {n : Nat}, cntF S n = 0 → ∀ j, j < n → S j = true
  | n + 1, h, j, hj => by
    rw [cntF] at h
    by_cases q : S n = true
    · by_cases e : j = n
      · subst e; exact q
      · exact cntF_zero (n := n) (by omega) j (by omega)
    · rw [if_neg q] at h; omega
theorem cntF_none {S : Nat → Bool} : ∀ {n : Nat}, (∀ j, j < n → S j = false) → cntF S n = n
  | 0, _ => rfl
  | n + 1, h => by rw [cntF, cntF_none fun j hj => h j (by omega), h n (by omega)]; simp
theorem least {S : Nat → Bool} : ∀ {n : Nat}, (∀ j, j < n → S j = true) ∨ ∃ i, i < n ∧ S i = false ∧ ∀ k, k < i → S k = true
  | 0 => .inl fun j hj => by omega
  | n + 1 => by
    rcases least (S := S) (n := n) with h | ⟨i, h1, h2, h3⟩
    · cases q : S n with
      | false => exact .inr ⟨n, by omega, q, h⟩
      | true =>
        refine .inl fun j hj => ?_
        by_cases e : j = n
        · subst e; exact q
        · exact h j (by omega)
    · exact .inr ⟨i, by omega, h2, h3⟩

theorem binds_any (e : Edge) : Region.binds .any e = bindE e := by
  unfold Region.binds bindE
  cases e.ground <;> rfl

def sOf (listed : Array Bool) : Nat → Bool := fun i => listed.getD i true
theorem sOf_set {listed : Array Bool} {i : Nat} (hi : i < listed.size) : sOf (listed.setIfInBounds i true) = upd (sOf listed) i := by
  funext j
  unfold sOf upd
  simp only [Array.getD_eq_getD_getElem?, Array.getElem?_setIfInBounds]
  by_cases e : i = j
  · subst e; simp [hi]
  · have : Nat.beq j i = false := beq_f (by omega)
    rw [if_neg e, this]; simp

theorem mem_ready {ops : Array Oper} {listed : Array Bool} (hl : listed.size = ops.size) {i : Nat} :
    i ∈ Region.ready .any ops listed ↔ ∃ o, ops[i]? = some o ∧ sOf listed i = false ∧ Ready (sOf listed) ops o := by
  unfold Region.ready
  rw [List.mem_filter, List.mem_range]
  constructor
  · rintro ⟨h1, h2⟩
    have ho : ops[i]? = some ops[i] := by simp [h1]
    rw [ho] at h2
    simp only [Option.map_some, Option.getD_some, Bool.and_eq_true, Bool.not_eq_true', Array.all_eq_true'] at h2
    refine ⟨ops[i], ho, h2.1, fun e he hb => ?_⟩
    have := h2.2 e (by simpa using he)
    rw [binds_any, hb] at this
    simp at this
    by_cases q : e.on < listed.size
    · refine ⟨?_, by omega⟩
      unfold sOf
      simp only [Array.getD_eq_getD_getElem?] at this ⊢
      rw [Array.getElem?_eq_getElem q] at this ⊢
      simpa using this
    · simp [q] at this
  · rintro ⟨o, h1, h2, h3⟩
    have hi : i < ops.size := (Array.getElem?_eq_some_iff.1 h1).1
    refine ⟨hi, ?_⟩
    rw [h1]
    simp only [Option.map_some, Option.getD_some, Bool.and_eq_true, Bool.not_eq_true', Array.all_eq_true']
    refine ⟨h2, fun e he => ?_⟩
    rw [binds_any]
    cases hb : bindE e with
    | false => rfl
    | true =>
      obtain ⟨k1, k2⟩ := h3 e (by simpa using he) hb
      unfold sOf at k1
      simp only [Array.getD_eq_getD_getElem?] at k1 ⊢
      rw [Array.getElem?_eq_getElem (by omega)] at k1 ⊢
      simpa using k1

section
variable {r : Nat → Rec} {nt base : Nat} {ops : Array Oper} {E : Nat → DEnt} {M : Nat → Nat} {ρ0 : Names} {st0 : St} {w0 : World}

theorem draw_loop (hc : ∀ i, CodeOk P (r i)) (hk : ∀ i, CallOk P (r i).call) (hR : Reg P r nt base ops E M) (h0 : st0.next ≤ base) {b : Frame} {df : List Deferred} (k : List Item) (cs : List Frame) :
    ∀ (fuel t : Nat) (listed : Array Bool) (a : Nat) (ρ : Names) (w : World) (tm : Array Value), listed.size = ops.size → cntF (sOf listed) ops.size = fuel → Inv nt base ops E M ρ0 st0 w0 (sOf listed) a ρ w tm →
    ∃ S a' ρ' w' tm', (∀ j, j < ops.size → S j = true) ∧ Inv nt base ops E M ρ0 st0 w0 S a' ρ' w' tm' ∧
      Steps P (lone (on b tm df (.inRegion ops (Region.linearise.go .any ops fuel t listed []) :: k)) cs w) (lone (on b tm' df (.inRegion ops [] :: k)) cs w') := by
  intro fuel
  induction fuel with
  | zero =>
    intro t listed a ρ w tm hl hcnt hI
    exact ⟨_, a, ρ, w, tm, cntF_zero hcnt, hI, by simp only [Region.linearise.go, List.reverse_nil]; exact Steps.refl _ _⟩
  | succ fuel ih =>
    intro t listed a ρ w tm hl hcnt hI
    have hne : Region.ready .any ops listed ≠ [] := by
      rcases least (S := sOf listed) (n := ops.size) with h | ⟨i, h1, h2, h3⟩
      · exfalso
        have : ∀ n, n ≤ ops.size → cntF (sOf listed) n = 0 := by
          intro n hn
          induction n with
          | zero => rfl
          | succ n ih => rw [cntF, ih (by omega), h n (by omega)]; rfl
        rw [this _ (Nat.le_refl _)] at hcnt
        cases hcnt
      · have ho : ops[i]? = some ops[i] := by simp [h1]
        have : i ∈ Region.ready .any ops listed := (mem_ready hl).2 ⟨ops[i], ho, h2, fun e he hb => by
          have := hR.bck i ops[i] ho e he hb
          exact ⟨h3 _ this, by omega⟩⟩
        intro q; rw [q] at this; simp at this
    have hlen : 0 < (Region.ready .any ops listed).length := List.length_pos_iff.2 hne
    obtain ⟨i, hi⟩ : ∃ i, (Region.ready .any ops listed)[t % (Region.ready .any ops listed).length]? = some i := ⟨_, List.getElem?_eq_getElem (Nat.mod_lt _ hlen)⟩
    obtain ⟨o, ho, hS, hr⟩ := (mem_ready hl).1 (List.mem_of_getElem? hi)
    have hin : i < ops.size := (Array.getElem?_eq_some_iff.1 ho).1
    have hgo : Region.linearise.go .any ops (fuel + 1) t listed [] = i :: Region.linearise.go .any ops fuel (t / (Region.ready .any ops listed).length) (listed.setIfInBounds i true) [] := by
      simp only [Region.linearise.go]
      change (match (Region.ready .any ops listed)[t % (Region.ready .any ops listed).length]? with
        | some i => Region.linearise.go .any ops fuel (t / (Region.ready .any ops listed).length) (listed.setIfInBounds i true) [i]
        | none => [].reverse) = _
      rw [hi]
      simp only []
      rw [linearise_go_acc, List.reverse_singleton, List.singleton_append]
    rw [hgo]
    obtain ⟨a1, ρ1, w1, tm1, hI1, s1⟩ := hI.step hc hk hR h0 ho hS hr (b := b) (df := df) (Region.linearise.go .any ops fuel (t / (Region.ready .any ops listed).length) (listed.setIfInBounds i true) []) k cs
    have hset := sOf_set (listed := listed) (i := i) (by omega)
    rw [← hset] at hI1
    have hc1 : cntF (sOf (listed.setIfInBounds i true)) ops.size = fuel := by
      rw [hset]
      have := cntF_upd hS (n := ops.size) hin
      omega
    obtain ⟨S, a', ρ', w', tm', z1, z2, z3⟩ := ih _ (listed.setIfInBounds i true) a1 ρ1 w1 tm1 (by simpa using hl) hc1 hI1
    exact ⟨S, a', ρ', w', tm', z1, z2, s1.trans z3⟩

/-- When all has run. -/
theorem Inv.done (hR : Reg P r nt base ops E M) {S : Nat → Bool} {a : Nat} {ρ : Names} {w : World} {tm : Array Value} (hI : Inv nt base ops E M ρ0 st0 w0 S a ρ w tm) (hS : ∀ j, j < ops.size → S j = true) :
    Goes ρ0 st0 w0 ρ (addP (E ops.size).st (E ops.size).pend) w ∧ HR ρ (addP (E ops.size).st (E ops.size).pend) w ∧ TR ρ nt (E ops.size).T tm := by
  have hI' := hI.relevel hR hI.an (Nat.le_refl _) fun k h1 h2 h3 => by
    have := (hI.acts k h3).1 (hS k h2)
    omega
  have hpe := fun p => hR.pend (Nat.le_refl ops.size) p
  have hfun : ∀ p ∈ (E ops.size).pend, ∀ q ∈ (E ops.size).pend, p.1 = q.1 → p.2 = q.2 := by
    intro p hp q hq e
    obtain ⟨j, _, _, _, rfl⟩ := (hpe p).1 hp
    obtain ⟨j', _, _, _, rfl⟩ := (hpe q).1 hq
    have : j = j' := by simp at e; exact e
    rw [this]
  obtain ⟨g1, g2⟩ := addP_get _ (E ops.size).st hfun
  obtain ⟨F, ⟨f1, fg⟩, f2, f3, f4, f5⟩ := hI'.heap
  have hsub : ∀ b o, (addP (E ops.size).st (E ops.size).pend).heap.get b = some o → F.heap.get b = some o := by
    intro b o hb
    by_cases c : ∃ p ∈ (E ops.size).pend, p.1 = b
    · obtain ⟨p, hp, rfl⟩ := c
      rw [g1 p hp] at hb
      obtain ⟨j, k1, k2, k3, rfl⟩ := (hpe p).1 hp
      injection hb with hb; subst hb
      exact f2 j ⟨k1, hS j k1, k2, k3⟩
    · rw [g2 b fun p hp e => c ⟨p, hp, e⟩] at hb
      exact hI'.sub f3 b o hb
  have hn : F.next ≤ (addP (E ops.size).st (E ops.size).pend).next := by rw [addP_next, f1]; exact Nat.le_refl _
  refine ⟨f5.ext hn hsub, f4.ext hn hsub (by rw [addP_gl, fg]), hI.size, fun t v hv => ?_⟩
  apply hI.slots
  rcases hR.slot (Nat.le_refl _) t v hv with ⟨j, h1, h2, h3, h4⟩ | ⟨h1, h2⟩
  · exact .inl ⟨j, h1, hS j h1, h2, fun j' k1 _ k3 => h3 j' k1 k3, h4⟩
  · exact .inr ⟨fun j k1 _ => h1 j k1, h2⟩
end

/-- A region whose order is drawn. -/
theorem draw_sound (hm : P.follows .mixedOrders = true) {r : Nat → Rec} (hc : ∀ i, CodeOk P (r i)) (hk : ∀ i, CallOk P (r i).call) {nt : Nat} {ops : Array Oper} {T : Tr AV} {D : List ADef} {st : St} {m : Mid} (h : drawRunR P r nt ops.toList T D st = some m)
    {ρ : Names} {w : World} {tm : Array Value} {df : List Deferred} (hH : HR ρ st w) (hT : TR ρ nt T tm) (hD : DRs ρ D df) {b : Frame} (id : Nat) (k : List Item) (cs : List Frame) :
    ∃ ρ' w' tm' df', Goes ρ st w ρ' m.st w' ∧ HR ρ' m.st w' ∧ TR ρ' nt m.tmps tm' ∧ DRs ρ' m.defers df' ∧
      Steps P (lone (on b tm df (.code (.region id ops true) :: k)) cs w) (lone (on b tm' df' k) cs w') := by
  unfold drawRunR at h
  simp only [ifb_none, ob_some] at h
  obtain ⟨hreg, q, hgo, hrd, h⟩ := h
  injection h with h; subst h
  obtain ⟨trf, mid⟩ := q
  obtain ⟨_, ⟨e0, d1, d2, d3, d4⟩, d5, e1, d6, d7⟩ := drawGo_data hgo rfl
  simp only [Nat.zero_add, Array.length_toList, Array.getElem?_toList] at d5 d6
  let E : Nat → DEnt := fun k => (trf[k]?).getD e0
  let M : Nat → Nat := fun i => (nth i (befs [] ops.toList)).getD 0
  have hE : ∀ k e, trf[k]? = some e → E k = e := fun k e he => by show (trf[k]?).getD e0 = e; rw [he]; rfl
  have hM : ∀ i mi, nth i (befs [] ops.toList) = some mi → M i = mi := fun i mi he => by show (nth i _).getD 0 = mi; rw [he]; rfl
  have stp : ∀ i o, ops[i]? = some o → Stp P r nt st.next ops.toList (befs [] ops.toList) i o (E i) (E (i + 1)) := by
    intro i o ho
    obtain ⟨e, e', k1, k2, k3⟩ := d5 i o ho
    rw [hE i e k1, hE (i + 1) e' k2]; exact k3
  have hR : Reg P r nt st.next ops E M := by
    refine ⟨fun i o ho => ?_, fun i o ho => ?_, fun i o ho => ?_, fun i o j ho hj => ?_, fun i o ho => ?_, fun i k x y hik hx hy => ?_, fun i o ho hrk hwt a x hx hxa => ?_, ?_⟩
    · obtain ⟨mi, d, a1, a2, a3, a4, a5, a6, a7, a8⟩ := stp i o ho; exact a2
    · obtain ⟨mi, d, a1, a2, a3, a4, a5, a6, a7, a8⟩ := stp i o ho
      exact ⟨d, by rw [hM i mi a1]; exact a3, a5, a6, a7, a8⟩
    · obtain ⟨mi, d, a1, a2, a3, a4, a5, a6, a7, a8⟩ := stp i o ho; rw [a7]; exact a4
    · obtain ⟨mi, d, a1, a2⟩ := stp i o ho
      rw [hM i mi a1] at hj
      obtain ⟨e, q1, q2, q3⟩ := bef_closed (by rw [Array.getElem?_toList]; exact ho) a1 hj
      refine ⟨e, q1, q2, ?_⟩
      rcases q3 with q3 | ⟨m', q3, q4⟩
      · exact .inl q3
      · exact .inr (by rw [hM _ _ q3]; exact q4)
    · obtain ⟨mi, q1, q2, q3⟩ := regOk_spec hreg (k := i) (y := o) (by rw [Array.getElem?_toList]; exact ho)
      exact backs_spec q2
    · obtain ⟨mi, q1, q2, q3⟩ := regOk_spec hreg (k := k) (y := y) (by rw [Array.getElem?_toList]; exact hy)
      rw [hM _ _ q1]
      exact q3 i x hik (by rw [Array.getElem?_toList]; exact hx)
    · obtain ⟨e, e', k1, k2, k3⟩ := d5 i o ho
      have hEi := hE i e k1
      have := readsOk_spec hrd i o e (by rw [Array.getElem?_toList]; exact ho) k1 hrk (by rw [← hEi]; exact hwt)
      rw [Nat.zero_add] at this
      have := readsOk1_spec this a x (by rw [Array.getElem?_toList]; exact hx) hxa
      simp only [Nat.zero_add] at this
      rw [hEi]
      constructor
      · intro hlt
        rcases this.1 hlt with ⟨mi, q1, q2⟩ | ⟨ea, q1, q2⟩
        · exact .inl (by rw [hM _ _ q1]; exact q2)
        · exact .inr (by rw [hE _ _ q1]; exact q2)
      · intro hle
        rcases this.2 hle with ⟨mi, q1, q2⟩ | ⟨ea, q1, q2⟩
        · exact .inl (by rw [hM _ _ q1]; exact q2)
        · exact .inr (by rw [hE _ _ q1]; exact q2)
    · rw [hE 0 e0 d1]; exact d4
  have hE0 := hE 0 e0 d1
  have hEn := hE _ _ d6
  have hs0 : ∀ j, j < ops.size → sOf (Array.replicate ops.size false) j = false := fun j hj => by simp [sOf, hj]
  have hI : Inv nt st.next ops E M ρ st { w with drawn := w.drawn + 1 } (sOf (Array.replicate ops.size false)) 0 ρ { w with drawn := w.drawn + 1 } tm := by
    have hst : (E 0).st = ⟨st.heap, st.next + ops.size, st.vm, st.gl, st.rw⟩ := by rw [hE0, d3]; simp
    have hH' : HR ρ (E 0).st { w with drawn := w.drawn + 1 } := (hH.drew _).ext (by rw [hst]; exact Nat.le_add_right _ _) (by rw [hst]; exact fun b o h => h) (by rw [hst])
    refine ⟨Nat.zero_le _, fun k hk => ?_, fun k h1 h2 => ?_, by rw [hst]; exact Nat.le_refl _, fun j hj _ => ?_, fun j hj => ?_, ⟨(E 0).st, ⟨rfl, rfl⟩, fun j hj => ?_, fun b hb => rfl, hH', ?_⟩, fun t v hk => ?_, hT.1⟩
    · rw [hs0 k hk.lt]; simp
    · rw [hs0 k h1] at h2; cases h2
    · cases q : ρ (st.next + j) with
      | none => rfl
      | some L => have := (hH.lt _ _ q).1; omega
    · have := hj.2.1; rw [hs0 j hj.1] at this; cases this
    · have := hj.2.1; rw [hs0 j hj.1] at this; cases this
    · exact Goes.refl.ext (by rw [hst]; exact Nat.le_add_right _ _) (by rw [hst]; exact fun b o h => h)
    · rcases hk with ⟨j, h1, h2, _⟩ | ⟨_, h2⟩
      · rw [hs0 j h1] at h2; cases h2
      · rw [hE0, d2] at h2; exact hT.2 t v h2
  have hsched : Region.schedule (P.follows .mixedOrders) ops (w.tape w.drawn (.order b.fn id)) = Region.linearise.go .any ops ops.size (w.tape w.drawn (.order b.fn id)) (Array.replicate ops.size false) [] := by
    simp only [Region.schedule, hm, Bool.true_or, if_true]
    rfl
  obtain ⟨S, a', ρ', w', tm', z1, z2, z3⟩ := draw_loop hc hk hR (Nat.le_refl st.next) (b := b) (df := df) k cs ops.size (w.tape w.drawn (.order b.fn id)) (Array.replicate ops.size false) 0 ρ { w with drawn := w.drawn + 1 } tm (by simp) (cntF_none hs0) hI
  obtain ⟨y1, y2, y3⟩ := z2.done hR z1
  rw [hEn] at y1 y2 y3
  subst d7
  refine ⟨ρ', w', tm', df, ?_, y2, y3, hD.mono y1.le, .head st_draw ?_⟩
  · exact ⟨y1.le, y1.next, y1.fresh, y1.size, y1.img, y1.same, y1.os, y1.tape, y1.output, Nat.le_trans (Nat.le_succ _) y1.drawn, y1.grew⟩
  · rw [hsched]; exact z3.trans (.one st_regionEnd)

end Go.Det
