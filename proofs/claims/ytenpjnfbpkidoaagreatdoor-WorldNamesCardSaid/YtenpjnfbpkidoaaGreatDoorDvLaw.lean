/- A law's arguments: from their reading to the machine's values; the law's row. -/
import Derived.Test.YtenpjnfbpkidoaaGreatDoorDvBeside
import Derived.Carry
import Derived.OpenShut
import Derived.ChangeArms
set_option linter.unusedVariables false
set_option linter.unusedSimpArgs false
namespace Go.Det
open Go.RowKit Go.ChangeShapes Go.WideShapes
variable {P : Program}

/-- Nothing is named; all memory is known. -/
def stV : St := { heap := .leaf, next := 0, vm := true }
def frozenAll (w : World) : Names := ⟨fun _ => none, fun a i => w.cell? ⟨a, i, none⟩⟩
theorem frozenAll_HR (w : World) (b : Bool) : HR (frozenAll w) { heap := .leaf, next := 0, vm := b } w :=
  ⟨(fun b L h => by cases h), (fun b o h => by simp [Tr.get] at h), (fun b b' o o' L L' h => by simp [Tr.get] at h), (fun _ _ _ h => h), (fun a i v h b o L hb => by simp [Tr.get] at hb), (fun g l h => by simp [Tr.get] at h)⟩

/-- What a type's readings are, as the machine's cells. -/
structure ArgOf (P : Program) (t : TypeId) {α : Type} (cells : α → List AV) (ok : α → Prop) : Prop where
  len : ∀ a, (cells a).length = P.cellsOf t
  scal : ∀ a, allScalar (cells a) = true
  abs : ∀ {H : Type} (enc : TypeId × Value → H) (w : World) (n : Nat) (cs : List Value) (x : DataW H × List MemPlace), DataW.trod enc P w 0 (fun _ => true) true n t cs = some x → ∃ a, ok a ∧ VRs (frozenAll w) (cells a) cs

theorem abs_int {t : TypeId} {k : IntKind} (ht : P.underlying t = some (.int k)) (hc : P.cellsOf t = 1) : ArgOf P t (fun x : Int => [AV.int k x]) (fun x => (Lit.int k x).wf = true) :=
  ⟨fun _ => hc.symm, fun _ => rfl, fun enc w n cs x h => by
    obtain ⟨z, rfl, _, hw⟩ := DataW.trod_int ht h
    exact ⟨z, hw, .cons (.int _ _) .nil⟩⟩
theorem abs_bool {t : TypeId} (ht : P.underlying t = some .bool) (hc : P.cellsOf t = 1) : ArgOf P t (fun x : Bool => [AV.bool x]) (fun _ => True) :=
  ⟨fun _ => hc.symm, fun _ => rfl, fun enc w n cs x h => by
    obtain ⟨z, rfl, _⟩ := DataW.trod_bool ht h
    exact ⟨z, trivial, .cons (.bool _) .nil⟩⟩
theorem abs_string {t : TypeId} (ht : P.underlying t = some .string) (hc : P.cellsOf t = 1) : ArgOf P t (fun x : ByteArray => [AV.str x]) (fun x => x.size ≤ maxLen) :=
  ⟨fun _ => hc.symm, fun _ => rfl, fun enc w n cs x h => by
    obtain ⟨z, rfl, _, hz⟩ := DataW.trod_string ht h
    exact ⟨z, hz, .cons (.str _) .nil⟩⟩

/-! Structs. -/
structure ArgFs (P : Program) (fs : List Field) (o n : Nat) {α : Type} (cells : α → List AV) (ok : α → Prop) : Prop where
  len : ∀ a, (cells a).length = n
  scal : ∀ a, allScalar (cells a) = true
  abs : ∀ {H : Type} (enc : TypeId × Value → H) (w : World) (m : Nat) (cs : List Value), (∀ f ∈ fs, ∃ x, DataW.trod enc P w 0 (fun _ => true) true m f.type ((cs.drop f.offset).take (P.cellsOf f.type)) = some x) →
    ∃ a, ok a ∧ VRs (frozenAll w) (cells a) ((cs.drop o).take n)
theorem argFs_nil (o : Nat) : ArgFs P [] o 0 (fun _ : Unit => []) (fun _ => True) :=
  ⟨fun _ => rfl, fun _ => rfl, fun enc w m cs _ => ⟨(), trivial, by simpa using VRs.nil⟩⟩
theorem argFs_cons {f : Field} {fs : List Field} {o k n : Nat} {α β : Type} {c : α → List AV} {ok : α → Prop} {c' : β → List AV} {ok' : β → Prop} (ho : f.offset = o) (hk : P.cellsOf f.type = k)
    (h : ArgOf P f.type c ok) (h' : ArgFs P fs (o + k) n c' ok') : ArgFs P (f :: fs) o (k + n) (fun a : α × β => c a.1 ++ c' a.2) (fun a => ok a.1 ∧ ok' a.2) := by
  refine ⟨fun a => by simp [h.len, h'.len, hk], fun a => allScalar_append (h.scal _) (h'.scal _), fun enc w m cs hx => ?_⟩
  obtain ⟨x, hx0⟩ := hx f (by simp)
  obtain ⟨a, ha, hv⟩ := h.abs enc w m _ _ hx0
  obtain ⟨b, hb, hv'⟩ := h'.abs enc w m cs fun g hg => hx g (by simp [hg])
  refine ⟨(a, b), ⟨ha, hb⟩, ?_⟩
  rw [ho, hk] at hv
  have e : (cs.drop o).take (k + n) = (cs.drop o).take k ++ (cs.drop (o + k)).take n := by
    rw [List.take_add, List.drop_drop]
  rw [e]; exact hv.append hv'
theorem argFs_on {f : Field} {fs : List Field} {o k n m : Nat} {α β : Type} {c : α → List AV} {ok : α → Prop} {c' : β → List AV} {ok' : β → Prop} (hm : m = k + n) (ho : f.offset = o) (hk : P.cellsOf f.type = k)
    (h : ArgOf P f.type c ok) (h' : ArgFs P fs (o + k) n c' ok') : ArgFs P (f :: fs) o m (fun a : α × β => c a.1 ++ c' a.2) (fun a => ok a.1 ∧ ok' a.2) := by
  subst hm; exact argFs_cons ho hk h h'
theorem abs_struct {t : TypeId} {fs : Array Field} {α : Type} {c : α → List AV} {ok : α → Prop} (ht : P.underlying t = some (.struct fs)) (h : ArgFs P fs.toList 0 (P.cellsOf t) c ok) : ArgOf P t c ok := by
  refine ⟨h.len, h.scal, fun enc w n cs x hx => ?_⟩
  obtain ⟨xs, m, rfl, _, hl, hlen, hf⟩ := DataW.trod_struct ht hx
  obtain ⟨a, ha, hv⟩ := h.abs enc w m cs fun f hfm => by
    obtain ⟨i, hi, e⟩ := List.getElem_of_mem hfm
    have hi' : i < xs.length := by rw [hlen]; simpa using hi
    have := hf i f (by rw [← Array.getElem?_toList, List.getElem?_eq_getElem hi, e])
    exact ⟨_, this.trans (List.getElem?_eq_getElem hi')⟩
  refine ⟨a, ha, ?_⟩
  rw [List.drop_zero, List.take_of_length_le (by omega)] at hv
  exact hv

/-! Slices. -/
inductive SliceV (β : Type) where
  | nil
  | mk (l : List β) (cap : Nat)
def SliceV.list {β : Type} : SliceV β → List β
  | .nil => []
  | .mk l _ => l
def SliceV.av {β : Type} (c : β → List AV) (e : Nat) : SliceV β → AV
  | .nil => .vs [] 0 0 true none e
  | .mk l cap => .vs (l.flatMap c) l.length cap true none e
def SliceV.ok {β : Type} (ok : β → Prop) : SliceV β → Prop
  | .nil => True
  | .mk l cap => (∀ b ∈ l, ok b) ∧ l.length ≤ cap ∧ cap ≤ maxLen

theorem flatMap_len {β : Type} {c : β → List AV} {k : Nat} (h : ∀ b, (c b).length = k) : ∀ l : List β, (l.flatMap c).length = l.length * k
  | [] => by simp
  | b :: l => by simp [flatMap_len h l, h, Nat.add_mul]; omega
theorem flatMap_scal {β : Type} {c : β → List AV} (h : ∀ b, allScalar (c b) = true) : ∀ l : List β, allScalar (l.flatMap c) = true
  | [] => rfl
  | b :: l => by rw [List.flatMap_cons]; exact allScalar_append (h b) (flatMap_scal h l)

theorem addr_spot {w : World} {a : Addr} {v : Value} (h : w.cell? a = some v) : a = ⟨a.block, a.off, none⟩ := by
  have hspot : a.spot = none := by
    cases hsp : a.spot with
    | none => rfl
    | some s =>
      simp only [World.cell?] at h
      split at h
      · simp [hsp] at h
      · cases h
  cases a
  simp only at hspot
  subst hspot
  rfl

theorem abs_slice {t e : TypeId} {β : Type} {c : β → List AV} {ok : β → Prop} {k : Nat} (ht : P.underlying t = some (.slice e)) (hc : P.cellsOf t = 1) (hk : P.cellsOf e = k) (hpos : 0 < k) (h : ArgOf P e c ok) :
    ArgOf P t (fun s : SliceV β => [s.av c k]) (SliceV.ok ok) := by
  refine ⟨fun _ => hc.symm, fun s => by cases s <;> rfl, fun {H} enc w n cs x hx => ?_⟩
  rcases DataW.trod_slice ht hx with ⟨rfl, _⟩ | ⟨a, len, cap, elems, rest, m, rfl, rfl, _, hb, hl, hm, hel, hi, hsp, _⟩
  · exact ⟨.nil, trivial, .cons .vsNil .nil⟩
  · obtain ⟨hrl, hri⟩ := hsp rfl
    rw [hk] at hi hri
    -- the elements, one by one
    have hone : ∀ i, i < len → ∃ (cs' : List Value) (b : β), w.cells? 0 (a.add (i * k)) k = some cs' ∧ ok b ∧ VRs (frozenAll w) (c b) cs' := by
      intro i hil
      have h1 := hi i hil
      rw [List.getElem?_eq_getElem (by omega), Option.bind_eq_some_iff] at h1
      obtain ⟨cs', h2, h3⟩ := h1
      obtain ⟨b, h4, h5⟩ := h.abs enc w m _ _ h3
      exact ⟨cs', b, h2, h4, h5⟩
    have hat : ∀ i cs', w.cells? 0 (a.add (i * k)) k = some cs' → cs'.length = k ∧ ∀ j, j < k → w.cell? ((a.add (i * k)).add j) = cs'[j]? := fun i cs' hcs =>
      let ⟨_, h1, h2⟩ := World.cells?_some hcs; ⟨h1, h2⟩
    have hspot : cap ≠ 0 → a = ⟨a.block, a.off, none⟩ := by
      intro hcap
      by_cases hlen : len = 0
      · have h1 := hri 0 (by omega)
        rw [List.getElem?_eq_getElem (by omega), Option.bind_eq_some_iff] at h1
        obtain ⟨cs', h2, h3⟩ := h1
        obtain ⟨_, k1, k2⟩ := World.cells?_some h2
        have := k2 0 hpos
        rw [List.getElem?_eq_getElem (by omega)] at this
        have e0 : (a.add ((len + 0) * k)).add 0 = a := by subst hlen; simp [Addr.add]
        rw [e0] at this
        exact addr_spot this
      · obtain ⟨cs', b, h2, _, _⟩ := hone 0 (by omega)
        obtain ⟨_, k1, k2⟩ := World.cells?_some h2
        have := k2 0 hpos
        rw [List.getElem?_eq_getElem (by omega)] at this
        have e0 : (a.add (0 * k)).add 0 = a := by simp [Addr.add]
        rw [e0] at this
        exact addr_spot this
    have hlist : ∀ q, q ≤ len → ∃ (l : List β) (l' : List Value), l.length = q ∧ (∀ b ∈ l, ok b) ∧ VRs (frozenAll w) (l.flatMap c) l' ∧ ∀ i v', l'[i]? = some v' → w.cell? ⟨a.block, a.off + i, none⟩ = some v' := by
      intro q
      induction q with
      | zero => intro _; exact ⟨[], [], rfl, by simp, .nil, fun i v' hv => by simp at hv⟩
      | succ q ih =>
        intro hq
        obtain ⟨l, l', h1, h2, h3, h4⟩ := ih (by omega)
        obtain ⟨cs', b, k1, k2, k3⟩ := hone q (by omega)
        obtain ⟨k4, k5⟩ := hat q cs' k1
        have ha := hspot (by omega)
        have hl' : l'.length = q * k := by rw [h3.length, flatMap_len (fun b => by rw [h.len, hk]), h1]
        refine ⟨l ++ [b], l' ++ cs', by simp [h1], ?_, ?_, ?_⟩
        · intro b' hb'
          rcases List.mem_append.1 hb' with hb' | hb'
          · exact h2 b' hb'
          · simp at hb'; subst hb'; exact k2
        · rw [List.flatMap_append]
          simpa using h3.append k3
        · intro i v' hv
          by_cases hlt : i < l'.length
          · rw [List.getElem?_append_left hlt] at hv; exact h4 i v' hv
          · rw [List.getElem?_append_right (by omega)] at hv
            have hj : i - l'.length < k := by
              rw [← k4]
              rcases Nat.lt_or_ge (i - l'.length) cs'.length with hh | hh
              · exact hh
              · rw [List.getElem?_eq_none hh] at hv; cases hv
            have h6 := k5 _ hj
            rw [hv] at h6
            rw [ha] at h6
            rw [addr_add, addr_add] at h6
            rw [show a.off + i = a.off + q * k + (i - l'.length) by omega]
            exact h6
    obtain ⟨l, l', h1, h2, h3, h4⟩ := hlist len (Nat.le_refl _)
    refine ⟨.mk l cap, ⟨h2, by rw [h1]; exact hl, hm⟩, .cons ?_ .nil⟩
    have hv : VR (frozenAll w) (.vs (l.flatMap c) len cap true none k) (.slice (some a) len cap) := by
      refine .vs (blk := a.block) (off := a.off) h3 (flatMap_scal h.scal l) (by rw [flatMap_len (fun b => by rw [h.len, hk]), h1]) hl (Nat.le_refl _) (fun _ => rfl) ?_ (fun b hb => by cases hb)
      by_cases hcap : cap = 0
      · exact .inl hcap
      · exact .inr ⟨hspot hcap, fun i v' hv => h4 i v' hv⟩
    show VR (frozenAll w) (.vs (l.flatMap c) l.length cap true none k) (.slice (some a) len cap)
    rw [h1]; exact hv

/-! An argument. -/
theorem arg_one {ρ : Names} {a : AV} {v : Value} (h : VRs ρ [a] v.cells.toList) (hv : ∀ cs, v ≠ .agg cs) : VR ρ a v := by
  cases v
  case agg cs => exact absurd rfl (hv cs)
  all_goals
    simp only [Value.cells] at h
    cases h with
    | cons h _ => exact h
theorem arg_int {t : TypeId} {k : IntKind} (ht : P.underlying t = some (.int k)) {r : Reach} {w : World} {base : Nat} {v : Value} (hv : Value.okWide P w r base t v) {H : Type} {enc : TypeId × Value → H} {W : World} {d : DataW H} {ps : List MemPlace}
    (h : DataW.Trod enc P W 0 (fun _ => true) true t v d ps) : ∃ x : Int, (Lit.int k x).wf = true ∧ VR (frozenAll W) (.int k x) v := by
  obtain ⟨n, hn⟩ := h
  obtain ⟨z, rfl⟩ := okWide_int ht hv
  obtain ⟨x, e, _, hw⟩ := DataW.trod_int ht hn
  simp [Value.cells] at e
  subst e
  exact ⟨z, hw, .int _ _⟩
theorem arg_bool {t : TypeId} (ht : P.underlying t = some .bool) {r : Reach} {w : World} {base : Nat} {v : Value} (hv : Value.okWide P w r base t v) (W : World) : ∃ x : Bool, VR (frozenAll W) (.bool x) v := by
  obtain ⟨z, rfl⟩ := okWide_bool ht hv
  exact ⟨z, .bool _⟩
theorem arg_slice {t e : TypeId} {β : Type} {c : β → List AV} {ok : β → Prop} {k : Nat} (ht : P.underlying t = some (.slice e)) (ha : ArgOf P t (fun s : SliceV β => [s.av c k]) (SliceV.ok ok)) {r : Reach} {w : World} {base : Nat} {v : Value} (hv : Value.okWide P w r base t v)
    {H : Type} {enc : TypeId × Value → H} {W : World} {d : DataW H} {ps : List MemPlace} (h : DataW.Trod enc P W 0 (fun _ => true) true t v d ps) : ∃ s : SliceV β, s.ok ok ∧ VR (frozenAll W) (s.av c k) v := by
  obtain ⟨n, hn⟩ := h
  obtain ⟨s, h1, h2⟩ := ha.abs enc W n _ _ hn
  obtain ⟨x, y, z, rfl⟩ := okWide_slice ht hv
  exact ⟨s, h1, arg_one h2 (fun cs => by simp)⟩
theorem arg_struct {t : TypeId} {fs : Array Field} {α : Type} {c : α → List AV} {ok : α → Prop} (ht : P.underlying t = some (.struct fs)) (ha : ArgOf P t c ok) {r : Reach} {w : World} {base : Nat} {v : Value} (hv : Value.okWide P w r base t v)
    {H : Type} {enc : TypeId × Value → H} {W : World} {d : DataW H} {ps : List MemPlace} (h : DataW.Trod enc P W 0 (fun _ => true) true t v d ps) : ∃ a : α, ok a ∧ VR (frozenAll W) (.agg (c a)) v := by
  obtain ⟨n, hn⟩ := h
  obtain ⟨a, h1, h2⟩ := ha.abs enc W n _ _ hn
  obtain ⟨cs, rfl, _⟩ := okWide_struct ht hv
  exact ⟨a, h1, .agg h2⟩

/-! Types that the machine has values for, whichever they are. -/
def ArgEx (P : Program) (t : TypeId) : Prop := ∃ (α : Type) (c : α → List AV) (ok : α → Prop), ArgOf P t c ok
def FsEx (P : Program) (fs : List Field) (o n : Nat) : Prop := ∃ (α : Type) (c : α → List AV) (ok : α → Prop), ArgFs P fs o n c ok
def simpleFs (P : Program) (s : TypeId → Bool) (n : Nat) : Nat → List Field → Bool
  | o, [] => Nat.beq o n
  | o, f :: fs => and (Nat.beq f.offset o) (and (s f.type) (simpleFs P s n (Nat.add o (P.cellsOf f.type)) fs))
def simpleT (P : Program) : Nat → TypeId → Bool
  | 0, _ => false
  | m + 1, t =>
    match P.underlying t with
    | some (.int _) | some .bool | some .string => Nat.beq (P.cellsOf t) 1
    | some (.slice e) => and (Nat.beq (P.cellsOf t) 1) (and (Nat.ble 1 (P.cellsOf e)) (simpleT P m e))
    | some (.struct fs) => simpleFs P (simpleT P m) (P.cellsOf t) 0 fs.toList
    | _ => false
theorem simpleFs_ex {s : TypeId → Bool} (hs : ∀ t, s t = true → ArgEx P t) {n : Nat} : ∀ (fs : List Field) (o : Nat), simpleFs P s n o fs = true → o ≤ n ∧ FsEx P fs o (n - o)
  | [], o, h => by
    obtain rfl : o = n := of_beq h
    refine ⟨Nat.le_refl _, ?_⟩
    rw [Nat.sub_self]
    exact ⟨_, _, _, argFs_nil o⟩
  | f :: fs, o, h => by
    simp only [simpleFs, Bool.and_eq_true] at h
    obtain ⟨h1, h2, h3⟩ := h
    obtain ⟨hle, α', c', ok', h4⟩ := simpleFs_ex hs fs _ h3
    obtain ⟨α, c, ok, h5⟩ := hs _ h2
    have hle' : o + P.cellsOf f.type ≤ n := hle
    refine ⟨by omega, ?_⟩
    have e : n - o = P.cellsOf f.type + (n - (o + P.cellsOf f.type)) := by omega
    rw [e]
    exact ⟨_, _, _, argFs_cons (of_beq h1) rfl h5 h4⟩
theorem simpleT_ex : ∀ (m : Nat) (t : TypeId), simpleT P m t = true → ArgEx P t
  | 0, t, h => by cases h
  | m + 1, t, h => by
    unfold simpleT at h
    split at h
    · rename_i hu; exact ⟨_, _, _, abs_int hu (of_beq h)⟩
    · rename_i hu; exact ⟨_, _, _, abs_bool hu (of_beq h)⟩
    · rename_i hu; exact ⟨_, _, _, abs_string hu (of_beq h)⟩
    · rename_i hu
      simp only [Bool.and_eq_true] at h
      obtain ⟨_, _, _, h4⟩ := simpleT_ex m _ h.2.2
      exact ⟨_, _, _, abs_slice hu (of_beq h.1) rfl (of_ble h.2.1) h4⟩
    · rename_i hu
      obtain ⟨_, _, _, _, h4⟩ := simpleFs_ex (simpleT_ex m) _ _ h
      exact ⟨_, _, _, abs_struct hu h4⟩
    · cases h
theorem simple_arg {m : Nat} {t : TypeId} (h : simpleT P m t = true) {r : Reach} {w : World} {base : Nat} {v : Value} (hv : Value.okWide P w r base t v) {H : Type} {enc : TypeId × Value → H} {W : World} {d : DataW H} {ps : List MemPlace}
    (ht : DataW.Trod enc P W 0 (fun _ => true) true t v d ps) : ∃ a : AV, VR (frozenAll W) a v := by
  obtain ⟨α, c, ok, ha⟩ := simpleT_ex m t h
  obtain ⟨n, hn⟩ := ht
  obtain ⟨a, h1, h2⟩ := ha.abs enc W n _ _ hn
  have one : (∀ cs, v ≠ .agg cs) → ∃ a : AV, VR (frozenAll W) a v := by
    intro hne
    have e : v.cells.toList = [v] := by
      cases v
      case agg cs => exact absurd rfl (hne cs)
      all_goals rfl
    rw [e] at h2
    generalize c a = l at h2
    cases h2 with
    | cons x _ => exact ⟨_, x⟩
  cases m with
  | zero => cases h
  | succ m =>
    unfold simpleT at h
    split at h
    · rename_i hu; obtain ⟨z, rfl⟩ := okWide_int hu hv; exact one (fun cs => by simp)
    · rename_i hu; obtain ⟨z, rfl⟩ := okWide_bool hu hv; exact one (fun cs => by simp)
    · rename_i hu; obtain ⟨z, rfl⟩ := okWide_string hu hv; exact one (fun cs => by simp)
    · rename_i hu; obtain ⟨x, y, z, rfl⟩ := okWide_slice hu hv; exact one (fun cs => by simp)
    · rename_i hu; obtain ⟨cs, rfl, _⟩ := okWide_struct hu hv; exact ⟨_, .agg h2⟩
    · cases h

/-! The call. -/
theorem law_calls {f : FuncId} {args : List AV} {st' : St} {b : Bool} (h : CallS P f args { heap := .leaf, next := 0, vm := b } (.bool true) st') {w : World} {args' : List Value} (hA : VRs (frozenAll w) args args') :
    Calls P f ⟨args'⟩ w fun e w' => e = .returned (.bool true) ∧ Below w.heap.size w w' := by
  refine (h.calls (frozenAll_HR w b) hA).mono ?_
  rintro e w' ⟨ρ, v', rfl, V, H, G⟩
  cases V
  exact ⟨rfl, G.os, G.tape, G.output, G.size, fun k hk => G.same k hk fun b o L hb => by simp [Tr.get] at hb⟩

/-! One run that is known: the examples of the chapter. -/
theorem CallS.closed_ran (hm : P.follows .mixedOrders = true) {n f : Nat} (h : answersTrue ((run P n).call f [] st0) = true) (st : St) : CallS P f [] st (.bool true) st := by
  unfold answersTrue at h
  split at h
  · rename_i st1 hr
    exact CallS.closed ((run_sound hm n).2 f [] st0 _ st1 hr) st
  · cases h
noncomputable def tabOne (f : Nat) : Tab := fun g => Bool.rec none (some fun args st => List.rec (some (.bool true, st)) (fun _ _ _ => none) args) (Nat.beq g f)
theorem tabOne_ok {f : Nat} (h : ∀ st, CallS P f [] st (.bool true) st) : TabOk P (tabOne f) := by
  intro g F hF args st v st' hr
  unfold tabOne at hF
  cases hb : Nat.beq g f with
  | false => rw [hb] at hF; cases hF
  | true =>
    rw [hb] at hF
    injection hF with hF; subst hF
    obtain rfl : g = f := of_beq hb
    cases args with
    | nil => injection hr with hr; injection hr with h1 h2; subst h1; subst h2; exact h _
    | cons a l => cases hr
theorem law_ran {tab : Tab} (hm : P.follows .mixedOrders = true) (ht : TabOk P tab) {n f : Nat} {args : List AV} {b : Bool} (h : answersTrue ((runTab tab P n).call f args { heap := .leaf, next := 0, vm := b }) = true) {w : World} {args' : List Value} (hA : VRs (frozenAll w) args args') :
    Calls P f ⟨args'⟩ w fun e w' => e = .returned (.bool true) ∧ Below w.heap.size w w' := by
  unfold answersTrue at h
  split at h
  · rename_i st1 hr
    exact law_calls ((runTab_sound ht hm n).2.1 f args _ _ st1 hr) hA
  · cases h

/-- The arguments read as they read. -/
theorem trodAll_stays {H : Type} {enc : TypeId × Value → H} (hl : laidOutB P = true) {W W' : World} (hb : Below W.heap.size W W') (sp : Nat → Bool) : ∀ {ts : List TypeId} {vs : List Value} {ds : List (DataW H)} {p : List MemPlace},
    (∀ t ∈ ts, P.readableRec t = true ∧ t < P.types.size) → DataW.TrodAll enc P W 0 (fun _ => true) true ts vs ds p → (∀ x ∈ p, x.block < W.heap.size) → (∀ x ∈ p, sp x.block = true) → DataW.TrodAll enc P W' 0 sp true ts vs ds p
  | [], vs, ds, p, _, h, _, _ => by
    obtain ⟨rfl, rfl, rfl⟩ := trodAll_nil h
    exact rfl
  | t :: ts, vs, ds, p, ht, h, hlt, hs => by
    obtain ⟨v, vs1, d, ds1, a, b, rfl, rfl, rfl, h1, h2⟩ := trodAll_cons h
    have ht0 := ht t (by simp)
    exact ⟨a, b, WideElems.Trod_stays hl ht0.1 ht0.2 h1 (fun x hx => hb.same (hlt x (by simp [hx]))) (fun x hx => hs x (by simp [hx])),
      trodAll_stays hl hb sp (fun t' ht' => ht t' (by simp [ht'])) h2 (fun x hx => hlt x (by simp [hx])) (fun x hx => hs x (by simp [hx])), rfl⟩

end Go.Det
