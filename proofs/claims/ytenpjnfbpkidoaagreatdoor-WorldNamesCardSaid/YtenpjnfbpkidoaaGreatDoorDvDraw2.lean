/- A region whose order is drawn: one operation in any order. -/
import Derived.Test.YtenpjnfbpkidoaaGreatDoorDvDraw
set_option linter.unusedVariables false
set_option linter.unusedSimpArgs false
namespace Go.Det
variable {P : Program}

def Pn (S : Nat → Bool) (ops : Array Oper) (E : Nat → DEnt) (M : Nat → Nat) (a j : Nat) : Prop := j < ops.size ∧ S j = true ∧ IsFr ops E j ∧ ¬ Abs ops E M j a
def Kn (S : Nat → Bool) (ops : Array Oper) (E : Nat → DEnt) (t : Tmp) (v : AV) : Prop :=
  (∃ j, j < ops.size ∧ S j = true ∧ dstOf ops j = some t ∧ (∀ j', j' < ops.size → S j' = true → dstOf ops j' = some t → j' ≤ j) ∧ v = (E j).v) ∨
  ((∀ j, j < ops.size → S j = true → dstOf ops j ≠ some t) ∧ (E 0).T.get t = some v)
def upd (S : Nat → Bool) (i : Nat) : Nat → Bool := fun j => Nat.beq j i || S j

/-- How things stand when the operations of S have run; a: no act of S stands behind it, none outside before it. -/
structure Inv (nt base : Nat) (ops : Array Oper) (E : Nat → DEnt) (M : Nat → Nat) (ρ0 : Names) (st0 : St) (w0 : World) (S : Nat → Bool) (a : Nat) (ρ : Names) (w : World) (tm : Array Value) : Prop where
  an : a ≤ ops.size
  acts : ∀ k, IsAct ops k → (S k = true ↔ k < a)
  clos : ∀ k, k < ops.size → S k = true → ∀ j, tb (M k) j = true → S j = true
  room : base + ops.size ≤ (E a).st.next
  names : ∀ j, j < ops.size → S j = false → ρ (base + j) = none
  apart : ∀ j, Pn S ops E M a j → (E a).st.heap.get (base + j) = none
  heap : ∃ F : St, (F.next = (E a).st.next ∧ F.gl = (E a).st.gl) ∧ (∀ j, Pn S ops E M a j → F.heap.get (base + j) = some (objOf E j)) ∧ (∀ b, (∀ j, Pn S ops E M a j → b ≠ base + j) → F.heap.get b = (E a).st.heap.get b) ∧
    HR ρ F w ∧ Goes ρ0 st0 w0 ρ F w
  slots : ∀ t v, Kn S ops E t v → ∃ v', tm[t]? = some v' ∧ VR ρ v v'
  size : nt ≤ tm.size

section
variable {r : Nat → Rec} {nt base : Nat} {ops : Array Oper} {E : Nat → DEnt} {M : Nat → Nat} {ρ0 : Names} {st0 : St} {w0 : World} {S : Nat → Bool} {a : Nat} {ρ : Names} {w : World} {tm : Array Value}

theorem upd_iff {i j : Nat} : upd S i j = true ↔ j = i ∨ S j = true := by simp [upd]
theorem upd_false {i j : Nat} (h : upd S i j = false) : j ≠ i ∧ S j = false := by
  constructor
  · intro e; rw [upd_iff.2 (.inl e)] at h; cases h
  · cases q : S j with
    | false => rfl
    | true => rw [upd_iff.2 (.inr q)] at h; cases h
theorem IsAct.lt {k : Nat} (h : IsAct ops k) : k < ops.size := by
  obtain ⟨o, h, _⟩ := h
  obtain ⟨h, _⟩ := Array.getElem?_eq_some_iff.1 h
  exact h

def Ready (S : Nat → Bool) (ops : Array Oper) (o : Oper) : Prop := ∀ e ∈ o.after.toList, bindE e = true → S e.on = true ∧ e.on < ops.size

theorem Inv.before (hR : Reg P r nt base ops E M) (hI : Inv nt base ops E M ρ0 st0 w0 S a ρ w tm) {i : Nat} {o : Oper} (ho : ops[i]? = some o) (hr : Ready S ops o) {j : Nat} (h : tb (M i) j = true) : S j = true := by
  obtain ⟨e, h1, h2, h3⟩ := hR.clo i o j ho h
  obtain ⟨k1, k2⟩ := hr e h1 h2
  rcases h3 with rfl | h3
  · exact k1
  · exact hI.clos _ k2 k1 j h3

theorem Inv.relevel (hR : Reg P r nt base ops E M) (hI : Inv nt base ops E M ρ0 st0 w0 S a ρ w tm) {c : Nat} (hac : a ≤ c) (hc : c ≤ ops.size) (hn : ∀ k, a ≤ k → k < c → ¬ IsAct ops k) : Inv nt base ops E M ρ0 st0 w0 S c ρ w tm := by
  have hs := hR.st_upto hac hc hn
  have hp : ∀ j, Pn S ops E M c j ↔ Pn S ops E M a j := fun j =>
    ⟨fun ⟨h1, h2, h3, h4⟩ => ⟨h1, h2, h3, fun q => h4 (q.mono hac)⟩, fun ⟨h1, h2, h3, h4⟩ => ⟨h1, h2, h3, fun q => h4 (q.back fun k k1 k2 q' => hn k k1 k2 q'.1)⟩⟩
  refine ⟨hc, fun k hk => ?_, hI.clos, by rw [hs]; exact hI.room, hI.names, fun j hj => by rw [hs]; exact hI.apart j ((hp j).1 hj), ?_, hI.slots, hI.size⟩
  · rw [hI.acts k hk]
    constructor
    · intro h; omega
    · intro h
      by_cases q : k < a
      · exact q
      · exact absurd hk (hn k (by omega) h)
  · obtain ⟨F, ⟨f1, fg⟩, f2, f3, f4, f5⟩ := hI.heap
    exact ⟨F, by rw [hs]; exact ⟨f1, fg⟩, fun j hj => f2 j ((hp j).1 hj), fun b hb => by rw [hs]; exact f3 b fun j hj => hb j ((hp j).2 hj), f4, f5⟩

theorem Inv.sub (hI : Inv nt base ops E M ρ0 st0 w0 S a ρ w tm) {F : St} (f3 : ∀ b, (∀ j, Pn S ops E M a j → b ≠ base + j) → F.heap.get b = (E a).st.heap.get b) : ∀ b o, (E a).st.heap.get b = some o → F.heap.get b = some o := by
  intro b o hb
  rw [f3 b fun j hj e => ?_]
  · exact hb
  · subst e; rw [hI.apart j hj] at hb; cases hb
theorem Inv.small (hI : Inv nt base ops E M ρ0 st0 w0 S a ρ w tm) : HR ρ (E a).st w := by
  obtain ⟨F, ⟨f1, fg⟩, f2, f3, f4, f5⟩ := hI.heap
  exact f4.ext (Nat.le_of_eq f1) (hI.sub f3) fg.symm

/-- What an operation looks at. -/
theorem Inv.seen (hR : Reg P r nt base ops E M) (hI : Inv nt base ops E M ρ0 st0 w0 S a ρ w tm) {i : Nat} {o : Oper} (ho : ops[i]? = some o) (hS : S i = false) (hr : Ready S ops o) :
    ∃ T' : Tr AV, TR ρ nt T' tm ∧ ∀ t, t ∈ looks ops.toList o → (E i).T.get t = T'.get t := by
  have hi : i < ops.size := (Array.getElem?_eq_some_iff.1 ho).1
  have behind : ∀ j' t, i < j' → j' < ops.size → S j' = true → t ∈ looks ops.toList o → dstOf ops j' ≠ some t := by
    intro j' t h1 h2 h3 h4 h5
    have hx : ops[j']? = some ops[j'] := by simp [h2]
    have hd : ops[j'].dst = some t := by simpa [dstOf, hx] using h5
    rcases hR.pair i j' o ops[j'] h1 ho hx with q | q
    · have := hI.clos j' h2 h3 i q
      rw [hS] at this; cases this
    · exact (apartA_spec q).2.1 t hd h4
  obtain ⟨T', hT'⟩ := restrict (E i).T (looks ops.toList o)
  refine ⟨T', ⟨hI.size, fun t v hv => ?_⟩, fun t ht => by rw [hT' t, if_pos ht]⟩
  rw [hT' t] at hv
  split at hv
  rotate_left
  · cases hv
  rename_i ht
  apply hI.slots
  rcases hR.slot (Nat.le_of_lt hi) t v hv with ⟨j, h1, h2, h3, h4⟩ | ⟨h1, h2⟩
  · have hx : ops[j]? = some ops[j] := by simp [show j < ops.size by omega]
    have hd : ops[j].dst = some t := by simpa [dstOf, hx] using h2
    refine .inl ⟨j, by omega, ?_, h2, fun j' k1 k2 k3 => ?_, h4⟩
    · rcases hR.pair j i ops[j] o h1 hx ho with q | q
      · exact hI.before hR ho hr q
      · exact absurd ht ((apartA_spec q).1 t hd)
    · by_cases q : j' < i
      · exact h3 j' q k3
      · by_cases q' : j' = i
        · subst q'; rw [hS] at k2; cases k2
        · exact absurd k3 (behind j' t (by omega) k1 k2 ht)
  · refine .inr ⟨fun j k1 k2 k3 => ?_, h2⟩
    by_cases q : j < i
    · exact h1 j q k3
    · by_cases q' : j = i
      · subst q'; rw [hS] at k2; cases k2
      · exact absurd k3 (behind j t (by omega) k1 k2 ht)

theorem Inv.slots' (hR : Reg P r nt base ops E M) (hI : Inv nt base ops E M ρ0 st0 w0 S a ρ w tm) {i : Nat} {o : Oper} (ho : ops[i]? = some o) (hS : S i = false) {ρ' : Names} (hle : ρ.le ρ') {v' : Value} (hv : VR ρ' (E i).v v') :
    ∀ t v, Kn (upd S i) ops E t v → ∃ u, (putC tm o.dst v')[t]? = some u ∧ VR ρ' v u := by
  have hi : i < ops.size := (Array.getElem?_eq_some_iff.1 ho).1
  have hdi : dstOf ops i = o.dst := by simp [dstOf, ho]
  intro t v hk
  by_cases e : o.dst = some t
  · have hev : v = (E i).v := by
      rcases hk with ⟨j, h1, h2, h3, h4, h5⟩ | ⟨h1, h2⟩
      · by_cases q : j = i
        · rw [h5, q]
        · exfalso
          have hj : S j = true := (upd_iff.1 h2).resolve_left q
          have hlt : i < j := by
            have := h4 i hi (upd_iff.2 (.inl rfl)) (by rw [hdi, e])
            omega
          have hx : ops[j]? = some ops[j] := by simp [h1]
          have hd : ops[j].dst = some t := by simpa [dstOf, hx] using h3
          rcases hR.pair i j o ops[j] hlt ho hx with q' | q'
          · have := hI.clos j h1 hj i q'
            rw [hS] at this; cases this
          · exact (apartA_spec q').2.2.1 t e hd
      · exact absurd (by rw [hdi, e]) (h1 i hi (upd_iff.2 (.inl rfl)))
    subst hev
    have hp := hR.put i o ho
    rw [e] at hp
    change ifb (Nat.ble (Nat.succ t) nt) (some ((E i).T.set t (E i).v)) none = _ at hp
    rw [ifb_none] at hp
    have ht : t < tm.size := Nat.lt_of_lt_of_le (of_ble hp.1) hI.size
    exact ⟨v', by simp [putC, e, ht], hv⟩
  · have : Kn S ops E t v := by
      rcases hk with ⟨j, h1, h2, h3, h4, h5⟩ | ⟨h1, h2⟩
      · have q : j ≠ i := fun q => by subst q; rw [hdi] at h3; exact e h3
        exact .inl ⟨j, h1, (upd_iff.1 h2).resolve_left q, h3, fun j' k1 k2 k3 => h4 j' k1 (upd_iff.2 (.inr k2)) k3, h5⟩
      · exact .inr ⟨fun j k1 k2 => h1 j k1 (upd_iff.2 (.inr k2)), h2⟩
    obtain ⟨u, h1, h2⟩ := hI.slots t v this
    refine ⟨u, ?_, h2.mono hle⟩
    cases hd : o.dst with
    | none => exact h1
    | some d =>
      rw [hd] at e
      show (tm.setIfInBounds d v')[t]? = some u
      rw [Array.getElem?_setIfInBounds, if_neg (fun q => e (by rw [q]))]
      exact h1

theorem putC_size (tm : Array Value) (d : Option Tmp) (v : Value) : (putC tm d v).size = tm.size := by cases d <;> simp [putC]

theorem Inv.clos' (hR : Reg P r nt base ops E M) (hI : Inv nt base ops E M ρ0 st0 w0 S a ρ w tm) {i : Nat} {o : Oper} (ho : ops[i]? = some o) (hr : Ready S ops o) :
    ∀ k, k < ops.size → upd S i k = true → ∀ j, tb (M k) j = true → upd S i j = true := by
  intro k h1 h2 j h3
  rcases upd_iff.1 h2 with rfl | h2
  · exact upd_iff.2 (.inr (hI.before hR ho hr h3))
  · exact upd_iff.2 (.inr (hI.clos k h1 h2 j h3))

/-- Nothing acts between the level and an act that is ready. -/
theorem Inv.between (hR : Reg P r nt base ops E M) (hI : Inv nt base ops E M ρ0 st0 w0 S a ρ w tm) {i : Nat} {o : Oper} (ho : ops[i]? = some o) (hS : S i = false) (hr : Ready S ops o) (ha : isActK (kd o.op) = true) :
    a ≤ i ∧ ∀ k, a ≤ k → k < i → ¬ IsAct ops k := by
  refine ⟨?_, fun k h1 h2 h3 => ?_⟩
  · have := hI.acts i ⟨o, ho, ha⟩
    rw [hS] at this
    simp at this
    omega
  · obtain ⟨x, hx, hxa⟩ := h3
    rcases hR.pair k i x o h2 hx ho with q | q
    · have := (hI.acts k ⟨x, hx, hxa⟩).1 (hI.before hR ho hr q)
      omega
    · exact (apartA_spec q).2.2.2 ⟨hxa, ha⟩

/-- An operation that leaves the heap alone has run. -/
theorem Inv.quiet (hR : Reg P r nt base ops E M) (hI : Inv nt base ops E M ρ0 st0 w0 S a ρ w tm) {i : Nat} {o : Oper} (ho : ops[i]? = some o) (hS : S i = false) (hr : Ready S ops o)
    (hf : ¬ IsFr ops E i) (ha : isActK (kd o.op) = true → (E i).wt = false) {v' : Value} (hv : VR ρ (E i).v v') : ∃ a', Inv nt base ops E M ρ0 st0 w0 (upd S i) a' ρ w (putC tm o.dst v') := by
  have hi : i < ops.size := (Array.getElem?_eq_some_iff.1 ho).1
  have hsl := hI.slots' hR ho hS (Names.le_refl ρ) hv
  have hcl := hI.clos' hR ho hr
  by_cases hact : isActK (kd o.op) = true
  · obtain ⟨h1, h2⟩ := hI.between hR ho hS hr hact
    have hI' := hI.relevel hR h1 (Nat.le_of_lt hi) h2
    have hw := ha hact
    have hs := (hR.unwanted ho hw).2.1
    have hp : ∀ j, Pn (upd S i) ops E M (i + 1) j ↔ Pn S ops E M i j := fun j => by
      constructor
      · rintro ⟨k1, k2, k3, k4⟩
        have : j ≠ i := fun e => hf (e ▸ k3)
        exact ⟨k1, (upd_iff.1 k2).resolve_left this, k3, fun q => k4 (q.mono (by omega))⟩
      · rintro ⟨k1, k2, k3, k4⟩
        refine ⟨k1, upd_iff.2 (.inr k2), k3, fun q => k4 (q.back fun k q1 q2 q3 => ?_)⟩
        obtain rfl : k = i := by omega
        rw [hw] at q3; cases q3.2.1
    obtain ⟨F, ⟨f1, fg⟩, f2, f3, f4, f5⟩ := hI'.heap
    refine ⟨i + 1, by omega, fun k hk => ?_, hcl, by rw [hs]; exact hI'.room, fun j h3 h4 => hI.names j h3 (upd_false h4).2, fun j hj => by rw [hs]; exact hI'.apart j ((hp j).1 hj),
      ⟨F, by rw [hs]; exact ⟨f1, fg⟩, fun j hj => f2 j ((hp j).1 hj), fun b hb => by rw [hs]; exact f3 b fun j hj => hb j ((hp j).2 hj), f4, f5⟩, hsl, by rw [putC_size]; exact hI.size⟩
    rw [upd_iff, hI'.acts k hk]
    omega
  · have hp : ∀ j, Pn (upd S i) ops E M a j ↔ Pn S ops E M a j := fun j => by
      constructor
      · rintro ⟨k1, k2, k3, k4⟩
        have : j ≠ i := fun e => hf (e ▸ k3)
        exact ⟨k1, (upd_iff.1 k2).resolve_left this, k3, k4⟩
      · rintro ⟨k1, k2, k3, k4⟩
        exact ⟨k1, upd_iff.2 (.inr k2), k3, k4⟩
    obtain ⟨F, ⟨f1, fg⟩, f2, f3, f4, f5⟩ := hI.heap
    refine ⟨a, hI.an, fun k hk => ?_, hcl, hI.room, fun j h3 h4 => hI.names j h3 (upd_false h4).2, fun j hj => hI.apart j ((hp j).1 hj),
      ⟨F, ⟨f1, fg⟩, fun j hj => f2 j ((hp j).1 hj), fun b hb => f3 b fun j hj => hb j ((hp j).2 hj), f4, f5⟩, hsl, by rw [putC_size]; exact hI.size⟩
    have hne : k ≠ i := fun e => by
      subst e
      obtain ⟨o', h1, h2⟩ := hk
      rw [ho] at h1; injection h1 with h1; subst h1
      exact hact h2
    rw [upd_iff, ← hI.acts k hk]
    simp [hne]

/-- An operation that makes a block has run. -/
theorem Inv.made (hR : Reg P r nt base ops E M) (hI : Inv nt base ops E M ρ0 st0 w0 S a ρ w tm) (h0 : st0.next ≤ base) {i : Nat} {o : Oper} (ho : ops[i]? = some o) (hS : S i = false) (hr : Ready S ops o)
    (hf : freshK (kd o.op) = true) (hw : (E i).wt = true) {L : Loc} {x : Obj} (hL : L.blk = w.heap.size) {v' : Value} (hv : VR (ρ.set (base + i) L) (E i).v v') (hO : OR (ρ.set (base + i) L) L (objOf E i) (some x)) :
    Inv nt base ops E M ρ0 st0 w0 (upd S i) a (ρ.set (base + i) L) (worldNew w x) (putC tm o.dst v') := by
  have hi : i < ops.size := (Array.getElem?_eq_some_iff.1 ho).1
  have hn := hI.names i hi hS
  have hsm := hI.small
  have hna : ¬ isActK (kd o.op) = true := fun q => by revert hf q; cases kd o.op <;> simp [isActK, freshK]
  have hab : ¬ Abs ops E M i a := by
    rintro ⟨b, h1, h2, h3, h4, h5⟩
    have := hI.clos b h3.lt ((hI.acts b h3).2 h2) i h5
    rw [hS] at this; cases this
  have hfr : IsFr ops E i := ⟨o, ho, hf, hw⟩
  have hpi : Pn (upd S i) ops E M a i := ⟨hi, upd_iff.2 (.inl rfl), hfr, hab⟩
  have hp : ∀ j, Pn (upd S i) ops E M a j ↔ j = i ∨ Pn S ops E M a j := fun j => by
    constructor
    · rintro ⟨k1, k2, k3, k4⟩
      rcases upd_iff.1 k2 with e | k2
      · exact .inl e
      · exact .inr ⟨k1, k2, k3, k4⟩
    · rintro (rfl | ⟨k1, k2, k3, k4⟩)
      · exact hpi
      · exact ⟨k1, upd_iff.2 (.inr k2), k3, k4⟩
  obtain ⟨F, ⟨f1, fg⟩, f2, f3, f4, f5⟩ := hI.heap
  have put : ∀ b, (F.put (base + i) (objOf E i)).heap.get b = if b = base + i then some (objOf E i) else F.heap.get b := fun b => Tr.get_set ..
  refine ⟨hI.an, fun k hk => ?_, hI.clos' hR ho hr, hI.room, fun j h3 h4 => ?_, fun j hj => ?_, ⟨F.put (base + i) (objOf E i), ⟨f1, fg⟩, fun j hj => ?_, fun b hb => ?_, ?_, ?_⟩, hI.slots' hR ho hS (Names.set_le L hn) hv, by rw [putC_size]; exact hI.size⟩
  · have hne : k ≠ i := fun e => by
      subst e
      obtain ⟨o', h1, h2⟩ := hk
      rw [ho] at h1; injection h1 with h1; subst h1
      exact hna h2
    rw [upd_iff, ← hI.acts k hk]
    simp [hne]
  · obtain ⟨k1, k2⟩ := upd_false h4
    have := hI.names j h3 k2
    simp only [Names.set]
    rw [if_neg (by omega)]; exact this
  · rcases (hp j).1 hj with rfl | hj
    · cases q : (E a).st.heap.get (base + j) with
      | none => rfl
      | some o' => obtain ⟨K, hK, _⟩ := hsm.obj _ _ q; rw [hn] at hK; cases hK
    · exact hI.apart j hj
  · rw [put]
    rcases (hp j).1 hj with rfl | hj
    · rw [if_pos rfl]
    · by_cases e : j = i
      · subst e; rw [if_pos rfl]
      · rw [if_neg (by omega)]; exact f2 j hj
  · rw [put, if_neg (hb i hpi)]
    exact f3 b fun j hj => hb j ((hp j).2 (.inr hj))
  · exact f4.newAt hn (by rw [f1]; have := hI.room; omega) _ L x hL hO
  · exact f5.newAt (by omega) hn _ L x hL

/-- An act has run. -/
theorem Inv.acted (hR : Reg P r nt base ops E M) {i : Nat} (hI : Inv nt base ops E M ρ0 st0 w0 S i ρ w tm) {o : Oper} (ho : ops[i]? = some o) (hS : S i = false) (hr : Ready S ops o)
    (ha : isActK (kd o.op) = true) (hw : (E i).wt = true) : HR ρ (addP (E i).st (part2 base (M i) (E i).pend).yes) w ∧
      ∀ ρ' w' v', Goes ρ (addP (E i).st (part2 base (M i) (E i).pend).yes) w ρ' (E (i + 1)).st w' → HR ρ' (E (i + 1)).st w' → VR ρ' (E i).v v' →
        Inv nt base ops E M ρ0 st0 w0 (upd S i) (i + 1) ρ' w' (putC tm o.dst v') := by
  have hi : i < ops.size := (Array.getElem?_eq_some_iff.1 ho).1
  have hfr : ¬ IsFr ops E i := by
    rintro ⟨o', h1, h2, _⟩
    rw [ho] at h1; injection h1 with h1; subst h1
    revert ha h2; cases kd o.op <;> simp [isActK, freshK]
  obtain ⟨F, ⟨f1, fg⟩, f2, f3, f4, f5⟩ := hI.heap
  have yes : ∀ p, p ∈ (part2 base (M i) (E i).pend).yes → ∃ j, j < i ∧ tb (M i) j = true ∧ Pn S ops E M i j ∧ p = (base + j, objOf E j) := by
    intro p hp
    obtain ⟨h1, h2⟩ := part2_mem.1.1 hp
    obtain ⟨j, k1, k2, k3, rfl⟩ := (hR.pend (Nat.le_of_lt hi) p).1 h1
    rw [show base + j - base = j by omega] at h2
    exact ⟨j, k1, h2, ⟨by omega, hI.before hR ho hr h2, k2, k3⟩, rfl⟩
  have hfun : ∀ p ∈ (part2 base (M i) (E i).pend).yes, ∀ q ∈ (part2 base (M i) (E i).pend).yes, p.1 = q.1 → p.2 = q.2 := by
    intro p hp q hq e
    obtain ⟨j, _, _, _, rfl⟩ := yes p hp
    obtain ⟨j', _, _, _, rfl⟩ := yes q hq
    have : j = j' := by simp at e; exact e
    rw [this]
  generalize hA : addP (E i).st (part2 base (M i) (E i).pend).yes = A
  obtain ⟨g1, g2⟩ := addP_get _ (E i).st hfun
  rw [hA] at g1 g2
  have hAn : A.next = (E i).st.next := by rw [← hA]; exact addP_next _ _
  have hAF : ∀ b o, A.heap.get b = some o → F.heap.get b = some o := by
    intro b o' hb
    by_cases c : ∃ p ∈ (part2 base (M i) (E i).pend).yes, p.1 = b
    · obtain ⟨p, hp, rfl⟩ := c
      rw [g1 p hp] at hb
      obtain ⟨j, _, _, h3, rfl⟩ := yes p hp
      injection hb with hb; subst hb
      exact f2 j h3
    · rw [g2 b fun p hp e => c ⟨p, hp, e⟩] at hb
      exact hI.sub f3 b o' hb
  refine ⟨f4.ext (by rw [f1, hAn]; exact Nat.le_refl _) hAF (by rw [fg, ← hA, addP_gl]), fun ρ' w' v' g H V => ?_⟩
  obtain ⟨F', ⟨q1, qg⟩, q2, q3⟩ := exists_add (E (i + 1)).st base (objOf E) (fun j => Pn (upd S i) ops E M (i + 1) j) ops.size
  -- what waits on
  have wait : ∀ j, Pn (upd S i) ops E M (i + 1) j → Pn S ops E M i j ∧ A.heap.get (base + j) = none := by
    rintro j ⟨k1, k2, k3, k4⟩
    have hne : j ≠ i := fun e => hfr (e ▸ k3)
    have hp : Pn S ops E M i j := ⟨k1, (upd_iff.1 k2).resolve_left hne, k3, fun q => k4 (q.mono (by omega))⟩
    refine ⟨hp, ?_⟩
    rw [g2 (base + j) fun p hp' e => ?_]
    · exact hI.apart j hp
    · obtain ⟨j', h1, h2, _, rfl⟩ := yes p hp'
      have : j' = j := by simp at e; exact e
      subst this
      exact k4 ⟨i, h1, by omega, ⟨o, ho, ha⟩, hw, h2⟩
  have hF' : ∀ b o, F'.heap.get b = some o → (E (i + 1)).st.heap.get b = some o ∨ (F.heap.get b = some o ∧ A.heap.get b = none) := by
    intro b o' hb
    by_cases c : ∃ j, j < ops.size ∧ Pn (upd S i) ops E M (i + 1) j ∧ b = base + j
    · obtain ⟨j, h1, h2, rfl⟩ := c
      rw [q2 j h1 h2] at hb
      injection hb with hb; subst hb
      obtain ⟨k1, k2⟩ := wait j h2
      exact .inr ⟨f2 j k1, k2⟩
    · rw [q3 b fun j h1 h2 e => c ⟨j, h1, h2, e⟩] at hb
      exact .inl hb
  obtain ⟨HF, GF⟩ := f4.frame hAF (hAn.trans f1.symm) g H q1 hF' qg
  refine ⟨by omega, fun k hk => ?_, hI.clos' hR ho hr, ?_, fun j h3 h4 => ?_, fun j hj => ?_, ⟨F', ⟨q1, qg⟩, fun j hj => q2 j hj.1 hj, fun b hb => q3 b fun j h1 h2 => hb j h2, HF, f5.trans GF⟩, hI.slots' hR ho hS g.le V, by rw [putC_size]; exact hI.size⟩
  · rw [upd_iff, hI.acts k hk]; omega
  · have := g.next; have := hI.room; omega
  · obtain ⟨k1, k2⟩ := upd_false h4
    have hn := hI.names j h3 k2
    cases q : ρ' (base + j) with
    | none => rfl
    | some L =>
      rcases g.fresh _ _ q with q | ⟨q, _⟩
      · rw [hn] at q; cases q
      · have := hI.room; omega
  · obtain ⟨k1, k2⟩ := wait j hj
    cases q : (E (i + 1)).st.heap.get (base + j) with
    | none => rfl
    | some o' =>
      exfalso
      obtain ⟨L, hL, _⟩ := H.obj _ _ q
      obtain ⟨L0, hL0, _⟩ := f4.obj _ _ (f2 j k1)
      have e := g.le _ _ hL0
      rw [hL] at e; injection e with e; subst e
      obtain ⟨b0, o0, L1, z1, z2, z3⟩ := g.img _ _ _ q hL (f4.lt _ _ hL0).2
      have := f4.inj _ _ _ _ _ _ (hAF _ _ z1) (f2 j k1) z2 hL0 z3
      subst this
      rw [k2] at z1; cases z1

/-- One operation that is ready. -/
theorem Inv.step (hc : ∀ i, CodeOk P (r i)) (hk : ∀ i, CallOk P (r i).call) (hR : Reg P r nt base ops E M) (hI : Inv nt base ops E M ρ0 st0 w0 S a ρ w tm) (h0 : st0.next ≤ base) {i : Nat} {o : Oper} (ho : ops[i]? = some o) (hS : S i = false) (hr : Ready S ops o)
    {b : Frame} {df : List Deferred} (rest : List Nat) (k : List Item) (cs : List Frame) :
    ∃ a' ρ' w' tm', Inv nt base ops E M ρ0 st0 w0 (upd S i) a' ρ' w' tm' ∧ Steps P (lone (on b tm df (.inRegion ops (i :: rest) :: k)) cs w) (lone (on b tm' df (.inRegion ops rest :: k)) cs w') := by
  have hi : i < ops.size := (Array.getElem?_eq_some_iff.1 ho).1
  obtain ⟨T', hT', hag⟩ := hI.seen hR ho hS hr
  have hwant := hR.want i o ho
  rw [wantedA_congr hag] at hwant
  have hw := wantedA_sound hT' hwant
  have hops := opd_looks hag
  have isFr : IsFr ops E i → freshK (kd o.op) = true ∧ (E i).wt = true := by
    rintro ⟨o', h1, h2⟩
    rw [ho] at h1; injection h1 with h1; subst h1; exact h2
  cases hwt : (E i).wt with
  | false =>
    rw [hwt] at hw
    have hv : VR ρ (E i).v Go.undef := by rw [(hR.unwanted ho hwt).1]; exact .tuple .nil
    obtain ⟨a', hI'⟩ := hI.quiet hR ho hS hr (fun q => by have := (isFr q).2; rw [hwt] at this; cases this) (fun _ => hwt) hv
    exact ⟨a', ρ, w, _, hI', .one (st_unwanted ho hw)⟩
  | true =>
    rw [hwt] at hw
    have run1 : ∀ {v' : Value} {w' : World}, (∀ c, o.op ≠ .defer c) → (execOp (evT tm) o).run P w = .ok (.value v') w' → Steps P (lone (on b tm df (.inRegion ops (i :: rest) :: k)) cs w) (lone (on b (putC tm o.dst v') df (.inRegion ops rest :: k)) cs w') := by
      intro v' w' hd hrun
      have hfin := finish_on b tm df ops i rest k v'
      simp only [ho, Option.bind_some] at hfin
      refine .one (step_lone_go ?_)
      rw [stepG_on ho hw (.inr hd), ← hfin]
      exact ap_value hrun
    by_cases ha : isActK (kd o.op) = true
    · obtain ⟨h1, h2⟩ := hI.between hR ho hS hr ha
      have hI' := hI.relevel hR h1 (Nat.le_of_lt hi) h2
      obtain ⟨HA, fin⟩ := hI'.acted hR ho hS hr ha hwt
      obtain ⟨_, x, hx, hx2⟩ := hR.act ho hwt ha
      rw [aop_congr hops] at hx
      obtain ⟨ρ', w', v', g, H, V, hs⟩ := act_sound (hc i) (hk i) hx hx2 HA (evT_sound hT') (b := b) (df := df) ho hw rest k cs
      exact ⟨i + 1, ρ', w', _, fin ρ' w' v' g H V, hs⟩
    · have hnd : ∀ c, o.op ≠ .defer c := fun c e => ha (by rw [e]; rfl)
      by_cases hf : freshK (kd o.op) = true
      · have hfa := (hR.fresh ho hwt hf).1
        rw [freshA_congr hops] at hfa
        obtain ⟨v', x, tot, k1, k2⟩ := fresh_sound (w := w) (ρ := ρ) (evT_sound hT') hfa
        have hn := hI.names i hi hS
        obtain ⟨k3, k4⟩ := k2 _ (Names.set_le ⟨w.heap.size, 0, tot⟩ hn) (Names.set_same _ _ _)
        exact ⟨a, _, _, _, hI.made hR h0 ho hS hr hf hwt rfl k3 k4, run1 hnd k1⟩
      · -- what looks only
        have hst : stillK (kd o.op) = true := by
          revert ha hf; cases kd o.op <;> simp [isActK, freshK, stillK]
        obtain ⟨⟨s1, hs1⟩, _, _⟩ := hR.still ho hwt ha hf
        have hval : ∃ s2, aop P (E i).T (E a).st o.op = some (.val (E i).v s2) := by
          by_cases hrd : isReadK (kd o.op) = true
          · have rd := fun b hb => hR.rds i o ho hrd hwt b hb
            by_cases hle : a ≤ i
            · rcases hR.first hle (Nat.le_of_lt hi) with q | ⟨c, c1, c2, c3, c4⟩
              · rw [← hR.st_upto hle (Nat.le_of_lt hi) q]; exact ⟨_, hs1⟩
              · obtain ⟨x, hx, hxa⟩ := c3
                rcases (rd c x hx hxa).1 c2 with q | q
                · have := (hI.acts c ⟨x, hx, hxa⟩).1 (hI.before hR ho hr q)
                  omega
                · rw [c4] at q; exact readSame_spec q
            · rcases hR.last (i := i) (a := a) (by omega) hI.an with q | ⟨c, c1, c2, c3, c4⟩
              · rw [hR.st_upto (a := i) (c := a) (by omega) hI.an q]; exact ⟨_, hs1⟩
              · obtain ⟨x, hx, hxa⟩ := c3
                rcases (rd c x hx hxa).2 c1 with q | q
                · have := hI.clos c (IsAct.lt ⟨x, hx, hxa⟩) ((hI.acts c ⟨x, hx, hxa⟩).2 c2) i q
                  rw [hS] at this; cases this
                · rw [c4] at q; exact readSame_spec q
          · exact ⟨_, aop_pure (kd_pure_of ha hrd hf) hs1 _⟩
        obtain ⟨s2, hs2⟩ := hval
        rw [aop_congr hops] at hs2
        obtain ⟨v, e, v', k1, k2⟩ := still_sound (evT_sound hT') hI.small hs2 hst
        injection e with e _
        subst e
        obtain ⟨a', hI'⟩ := hI.quiet hR ho hS hr (fun q => hf (isFr q).1) (fun q => absurd q ha) k2
        exact ⟨a', ρ, w, _, hI', run1 hnd k1⟩

end
end Go.Det
