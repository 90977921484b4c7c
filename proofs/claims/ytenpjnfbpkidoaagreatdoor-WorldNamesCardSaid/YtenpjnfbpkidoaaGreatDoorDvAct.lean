/- Operations that change memory. -/
import Derived.Test.YtenpjnfbpkidoaaGreatDoorDvFresh
set_option linter.unusedVariables false
set_option linter.unusedSimpArgs false
namespace Go.Det
variable {P : Program} {ρ : Names}

/-- The model answers a value that relates, and the world follows the heap. -/
def Does (P : Program) (ρ : Names) (st : St) (w : World) (v : AV) (st' : St) (s : Sem Value) : Prop :=
  ∃ ρ' w' v', s.run P w = .ok v' w' ∧ Goes ρ st w ρ' st' w' ∧ HR ρ' st' w' ∧ VR ρ' v v'
def DoesU (P : Program) (ρ : Names) (st : St) (w : World) (st' : St) (s : Sem Unit) : Prop :=
  ∃ ρ' w', s.run P w = .ok () w' ∧ Goes ρ st w ρ' st' w' ∧ HR ρ' st' w'

/-- A name is forgotten. -/
theorem HR.del {st : St} {w : World} (h : HR ρ st w) (b : Nat) : HR ρ (st.del b) w ∧ Goes ρ st w ρ (st.del b) w := by
  have back : ∀ b' o, (st.del b).heap.get b' = some o → st.heap.get b' = some o := fun b' o hb => by
    change (st.heap.del b).get b' = some o at hb
    rw [Tr.get_del] at hb
    by_cases e : b' = b
    · rw [if_pos e] at hb; cases hb
    · rwa [if_neg e] at hb
  exact ⟨⟨h.lt, fun b' o hb => h.obj _ _ (back _ _ hb), fun b1 b2 o1 o2 L1 L2 h1 h2 => h.inj _ _ _ _ _ _ (back _ _ h1) (back _ _ h2), h.mem, (fun a i v hv b' o L hb => h.sep a i v hv b' o L (back _ _ hb)), h.glob⟩,
    ⟨Names.le_refl _, Nat.le_refl _, fun _ _ h => .inl h, Nat.le_refl _, fun b' o L hb hL _ => ⟨b', o, L, back _ _ hb, hL, rfl⟩, fun _ _ _ => rfl, rfl, rfl, rfl, fun _ _ _ h => .inl h⟩⟩

/-- A name's block, from some place on, under a new name; the old name is forgotten. -/
theorem HR.move {st : St} {w : World} (h : HR ρ st w) {b : Nat} {o0 : Ob} {L : Loc} (h0 : st.heap.get b = some o0) (hL : ρ b = some L) (o : Ob) (off : Nat) (x : Obj)
    (ho : OR (ρ.set st.next ⟨L.blk, off, L.tot⟩) ⟨L.blk, off, L.tot⟩ o (some x)) (hns : o0 ≠ .spare := by nofun) :
    HR (ρ.set st.next ⟨L.blk, off, L.tot⟩) ((st.del b).new o) { w with heap := w.heap.setIfInBounds L.blk x } ∧
      Goes ρ st w (ρ.set st.next ⟨L.blk, off, L.tot⟩) ((st.del b).new o) { w with heap := w.heap.setIfInBounds L.blk x } := by
  have hlt := (h.lt _ _ hL).2
  have hle := Names.set_le (⟨L.blk, off, L.tot⟩ : Loc) h.fresh
  have at_ : ∀ k, ({ w with heap := w.heap.setIfInBounds L.blk x } : World).heap[k]? = if L.blk = k then some x else w.heap[k]? := fun k => by
    show (w.heap.setIfInBounds L.blk x)[k]? = _
    rw [Array.getElem?_setIfInBounds]
    by_cases e : L.blk = k
    · simp [e]; omega
    · simp [e]
  have hsz : ({ w with heap := w.heap.setIfInBounds L.blk x } : World).heap.size = w.heap.size := by simp
  have gets : ∀ b' o', ((st.del b).new o).heap.get b' = some o' → (b' = st.next ∧ o' = o) ∨ (b' ≠ st.next ∧ b' ≠ b ∧ st.heap.get b' = some o') := fun b' o' hb => by
    change ((st.heap.del b).set st.next o).get b' = some o' at hb
    rw [Tr.get_set, Tr.get_del] at hb
    by_cases e : b' = st.next
    · rw [if_pos e] at hb; injection hb with hb; exact .inl ⟨e, hb.symm⟩
    · rw [if_neg e] at hb
      by_cases e2 : b' = b
      · rw [if_pos e2] at hb; cases hb
      · rw [if_neg e2] at hb; exact .inr ⟨e, e2, hb⟩
  have hne : ∀ a i v, ρ.mem a i = some v → ¬ L.blk = a := fun a i v hv he => hns (h.sep _ _ _ hv _ _ _ h0 hL he).1
  have hmem : ∀ a i v, (ρ.set st.next ⟨L.blk, off, L.tot⟩).mem a i = some v → ({ w with heap := w.heap.setIfInBounds L.blk x } : World).cell? ⟨a, i, none⟩ = some v := fun a i v hv => by
    rw [cell_of (w := w) (by rw [at_, if_neg (hne _ _ _ hv)])]; exact h.mem _ _ _ hv
  have hsep : ∀ a i v, (ρ.set st.next ⟨L.blk, off, L.tot⟩).mem a i = some v → ∀ b' o' K, ((st.del b).new o).heap.get b' = some o' → (ρ.set st.next ⟨L.blk, off, L.tot⟩) b' = some K → K.blk = a → o' = .spare ∧ i < K.off := by
    intro a i v hv b' o' K hg hK he
    rcases Names.set_inv hK with ⟨e1, e2⟩ | ⟨n1, k1⟩
    · rw [e2] at he; exact absurd he (hne _ _ _ hv)
    · rcases gets _ _ hg with ⟨e1, _⟩ | ⟨_, _, g1⟩
      · exact absurd e1 n1
      · exact h.sep _ _ _ hv _ _ _ g1 k1 he
  refine ⟨⟨?_, ?_, ?_, hmem, hsep, fun g l hg => let ⟨l', a, c⟩ := h.glob g l hg; ⟨l', a.mono hle, fun i v hv => hle.mem _ _ _ (c i v hv)⟩⟩, ⟨hle, Nat.le_succ _, ?_, by omega, ?_, ?_, rfl, rfl, rfl, fun _ _ _ h => .inl h⟩⟩
  · intro b' K hK
    rw [hsz]
    rcases Names.set_inv hK with ⟨e1, e2⟩ | ⟨_, hK'⟩
    · rw [e1, e2]; exact ⟨Nat.lt_succ_self _, hlt⟩
    · have := h.lt _ _ hK'; exact ⟨Nat.lt_succ_of_lt this.1, this.2⟩
  · intro b' o' hb
    rcases gets _ _ hb with ⟨rfl, rfl⟩ | ⟨n1, n2, hb'⟩
    · exact ⟨_, Names.set_same _ _ _, by rw [at_, if_pos rfl]; exact ho⟩
    · obtain ⟨K, hK, hO⟩ := h.obj _ _ hb'
      refine ⟨K, hle _ _ hK, ?_⟩
      rw [at_, if_neg (fun he => n2 (h.inj _ _ _ _ _ _ hb' h0 hK hL he.symm))]
      exact hO.mono hle
  · intro b1 b2 o1 o2 K1 K2 h1 h2 k1 k2 he
    rcases gets _ _ h1 with ⟨e1, _⟩ | ⟨n1, m1, g1⟩
    · rcases gets _ _ h2 with ⟨e2, _⟩ | ⟨n2, m2, g2⟩
      · rw [e1, e2]
      · subst e1
        rw [Names.set_same] at k1; injection k1 with k1; subst k1
        rcases Names.set_inv k2 with ⟨e3, _⟩ | ⟨_, k2'⟩
        · exact absurd e3 n2
        · exact absurd (h.inj _ _ _ _ _ _ g2 h0 k2' hL he.symm) m2
    · rcases gets _ _ h2 with ⟨e2, _⟩ | ⟨n2, m2, g2⟩
      · subst e2
        rw [Names.set_same] at k2; injection k2 with k2; subst k2
        rcases Names.set_inv k1 with ⟨e3, _⟩ | ⟨_, k1'⟩
        · exact absurd e3 n1
        · exact absurd (h.inj _ _ _ _ _ _ g1 h0 k1' hL he) m1
      · rcases Names.set_inv k1 with ⟨e3, _⟩ | ⟨_, k1'⟩
        · exact absurd e3 n1
        · rcases Names.set_inv k2 with ⟨e3, _⟩ | ⟨_, k2'⟩
          · exact absurd e3 n2
          · exact h.inj _ _ _ _ _ _ g1 g2 k1' k2' he
  · intro b' K hK
    rcases Names.set_inv hK with ⟨e1, e2⟩ | ⟨_, hK'⟩
    · rw [e1]; exact .inr ⟨Nat.le_refl _, fun k hk => by rw [h.fresh] at hk; cases hk⟩
    · exact .inl hK'
  · intro b' o' K hb hK hlt'
    rcases gets _ _ hb with ⟨rfl, rfl⟩ | ⟨n1, n2, hb'⟩
    · rw [Names.set_same] at hK; injection hK with hK; subst hK
      exact ⟨b, o0, L, h0, hL, rfl⟩
    · rcases Names.set_inv hK with ⟨e3, _⟩ | ⟨_, hK'⟩
      · exact absurd e3 n1
      · exact ⟨b', o', K, hb', hK', rfl⟩
  · intro k hk hn
    rw [at_, if_neg (hn b o0 L h0 hL)]

/-! Maps. -/
theorem sameKey0_eq {k e : AV} {k' e' : Value} (h : sameKey0 k e = some true) (hk : VR ρ k k') (he : VR ρ e e') : e' = k' ∧ ∀ n, Instr.sameBits n e' k' = true := by
  unfold sameKey0 at h
  split at h
  · rw [ifb_none, eqKind_iff] at h
    obtain ⟨rfl, h⟩ := h
    injection h with h
    rw [eqInt_iff] at h; subst h
    cases hk; cases he; exact ⟨rfl, fun n => by cases n <;> simp [Instr.sameBits]⟩
  · injection h with h
    rw [eqBytes_iff] at h
    cases hk; cases he
    rename_i a b
    have : b = a := by
      obtain ⟨⟨x⟩⟩ := a; obtain ⟨⟨y⟩⟩ := b
      simp at h; rw [h]
    subst this
    exact ⟨rfl, fun n => by cases n <;> simp [Instr.sameBits, beq_toListBytes]⟩
  · injection h with h
    rw [eqBool_eq] at h
    cases hk; cases he
    simp at h; subst h
    exact ⟨rfl, fun n => by cases n <;> simp [Instr.sameBits]⟩
  · cases h
theorem sameCells_eq : ∀ {a b : List AV} {a' b' : List Value}, sameCells a b = some true → VRs ρ a a' → VRs ρ b b' → b' = a' ∧ ∀ n, ((b'.zip a').all fun (x, y) => Instr.sameBits n x y) = true
  | [], [], _, _, _, .nil, .nil => ⟨rfl, fun n => rfl⟩
  | x :: a, y :: b, _, _, h, .cons hx ha, .cons hy hb => by
    simp only [sameCells, ob_some] at h
    obtain ⟨r, h1, h2⟩ := h
    cases r with
    | false => rw [ifb_false] at h2; cases h2
    | true =>
      rw [ifb_true] at h2
      obtain ⟨e1, e2⟩ := sameKey0_eq h1 hx hy
      obtain ⟨e3, e4⟩ := sameCells_eq h2 ha hb
      exact ⟨by rw [e1, e3], fun n => by simp only [List.zip_cons_cons, List.all_cons, e2 n, Bool.true_and]; exact e4 n⟩
  | [], _ :: _, _, _, h, _, _ => by simp [sameCells] at h
  | _ :: _, [], _, _, h, _, _ => by simp [sameCells] at h
theorem sameKey_eq {k e : AV} {k' e' : Value} (h : sameKey k e = some true) (hk : VR ρ k k') (he : VR ρ e e') : e' = k' ∧ Instr.sameBits 10000 e' k' = true := by
  unfold sameKey at h
  split at h
  · cases hk with
    | agg hk =>
      cases he with
      | agg he =>
        obtain ⟨e1, e2⟩ := sameCells_eq h hk he
        subst e1
        exact ⟨rfl, by simp only [Instr.sameBits]; rw [Bool.and_eq_true]; exact ⟨by simp, e2 9999⟩⟩
  · obtain ⟨e1, e2⟩ := sameKey0_eq h hk he
    exact ⟨e1, e2 _⟩
theorem ERs.length : ∀ {a : List AEntry} {b : List MapEntry}, ERs ρ a b → b.length = a.length
  | _, _, .nil => rfl
  | _, _, .cons _ _ t => by simp [ERs.length t]
/-- Where a key stands, it stands in the model's map; with the bits that it had. -/
theorem find_at {k : AV} {k' : Value} (hk : VR ρ k k') : ∀ {es : List AEntry} {es' : List MapEntry} (i : Nat) {j : Nat} {v : AV}, ERs ρ es es' → findA k es i = some (some (j, v)) →
    i ≤ j ∧ ∃ e, es'[j - i]? = some e ∧ e.key = k' ∧ Instr.sameBits 10000 e.key k' = true
  | _, _, i, j, v, .nil, h => by simp [findA] at h
  | _, _, i, j, v, .cons (k' := k3) (v' := v3) (n := n) hk2 hv2 t2, h => by
    simp only [findA, ob_some] at h
    obtain ⟨b, h1, h2⟩ := h
    cases b with
    | true =>
      rw [ifb_true] at h2; injection h2 with h2; injection h2 with h2; injection h2 with h2 _; subst h2
      have := sameKey_eq h1 hk hk2
      exact ⟨Nat.le_refl _, ⟨k3, v3, n⟩, by simp, this.1, this.2⟩
    | false =>
      rw [ifb_false] at h2
      obtain ⟨h3, e, h4, h5⟩ := find_at hk (i + 1) t2 h2
      exact ⟨by omega, e, by rw [show j - i = j - (i + 1) + 1 by omega]; simpa using h4, h5⟩
theorem setEntry_sound {v : AV} {v' : Value} (hv : VR ρ v v') : ∀ {es : List AEntry} {es' : List MapEntry} (j : Nat), ERs ρ es es' → ERs ρ (setEntry v j es) (es'.modify j fun e => { e with val := v' })
  | _, _, j, .nil => by cases j <;> exact .nil
  | _, _, 0, .cons hk _ t => by simpa [setEntry] using ERs.cons hk hv t
  | _, _, j + 1, .cons hk h t => by simpa [setEntry] using ERs.cons hk h (setEntry_sound hv j t)
theorem dropEntry_sound : ∀ {es : List AEntry} {es' : List MapEntry} (j : Nat), ERs ρ es es' → ERs ρ (dropEntry j es) (es'.eraseIdx j)
  | _, _, j, .nil => by cases j <;> exact .nil
  | _, _, 0, .cons hk _ t => by simpa [dropEntry] using t
  | _, _, j + 1, .cons hk h t => by simpa [dropEntry] using ERs.cons hk h (dropEntry_sound j t)
theorem ERs.append : ∀ {a : List AEntry} {a' : List MapEntry} {b : List AEntry} {b' : List MapEntry}, ERs ρ a a' → ERs ρ b b' → ERs ρ (a ++ b) (a' ++ b')
  | _, _, _, _, .nil, h => h
  | _, _, _, _, .cons hk hv t, h => .cons hk hv (t.append h)

theorem put_map {st : St} {w : World} (hH : HR ρ st w) {b : Nat} {q : List AEntry × Nat} (h : mapOf st b = some q) {L : Loc} (hL : ρ b = some L) {es : List AEntry} {es' : List MapEntry} (he : ERs ρ es es') (c : Nat) :
    HR ρ (st.put b (.map es c)) { w with heap := w.heap.setIfInBounds L.blk (.map ⟨es'⟩ c) } ∧ Goes ρ st w ρ (st.put b (.map es c)) { w with heap := w.heap.setIfInBounds L.blk (.map ⟨es'⟩ c) } :=
  hH.put (mapOf_some.1 h) hL (.map es c) _ ⟨es', rfl, he⟩ _ rfl
theorem map_at {st : St} {w : World} (hH : HR ρ st w) {b : Nat} {q : List AEntry × Nat} (h : mapOf st b = some q) {L : Loc} (hL : ρ b = some L) : ∃ es' : List MapEntry, w.heap[L.blk]? = some (.map ⟨es'⟩ q.2) ∧ ERs ρ q.1 es' := by
  obtain ⟨L', hL', es', h1, h2⟩ := hH.obj _ _ (mapOf_some.1 h)
  obtain rfl : L' = L := by rw [hL] at hL'; injection hL' with h; exact h.symm
  exact ⟨es', h1, h2⟩

theorem put_map_same {st : St} {w : World} (hH : HR ρ st w) {b : Nat} {q : List AEntry × Nat} (h : mapOf st b = some q) {L : Loc} (hL : ρ b = some L) {es' : List MapEntry} (h3 : w.heap[L.blk]? = some (.map ⟨es'⟩ q.2)) (he : ERs ρ q.1 es') :
    HR ρ (st.put b (.map q.1 q.2)) w ∧ Goes ρ st w ρ (st.put b (.map q.1 q.2)) w := by
  have e : { w with heap := w.heap.setIfInBounds L.blk (.map ⟨es'⟩ q.2) } = w := by
    have : w.heap.setIfInBounds L.blk (.map ⟨es'⟩ q.2) = w.heap := by
      apply Array.ext_getElem?
      intro k
      rw [Array.getElem?_setIfInBounds]
      by_cases c : L.blk = k
      · subst c
        rw [if_pos rfl, h3]
        by_cases c2 : L.blk < w.heap.size
        · simp [c2]
        · rw [Array.getElem?_eq_none (by omega)] at h3; cases h3
      · simp [c]
    rw [this]
  have := put_map hH h hL he q.2
  rwa [e] at this
theorem mapUpdate_sound {st st' : St} {w : World} (hH : HR ρ st w) {t : TypeId} {m k v : AV} {m' k' v' : Value} (h : mapUpdateA P st t m k v = some st') (hm : VR ρ m m') (hk : VR ρ k k') (hv : VR ρ v v') : DoesU P ρ st w st' (Instr.mapUpdate t m' k' v') := by
  unfold mapUpdateA at h
  split at h
  · rename_i key elem b hu
    simp only [ifb_none, ob_some, om_some] at h
    obtain ⟨hkk, q, h1, r, h2, rfl⟩ := h
    cases hm with
    | map hL =>
      rename_i L
      obtain ⟨es', h3, h4⟩ := map_at hH h1 hL
      obtain ⟨r', k1, k2⟩ := findKey_sound (P := P) hk hkk h4 h2 w
      have hc := checkKey_sound (P := P) hk hkk false w
      have hget : (getObj L.blk).run P w = .ok (.map ⟨es'⟩ q.2) w := by simp [getObj, Sem.run, h3]
      have hset : ∀ o, (setObj L.blk o).run P w = .ok () { w with heap := w.heap.setIfInBounds L.blk o } := fun o => by simp [setObj, Sem.run, h3]
      rcases k2 with ⟨rfl, rfl⟩ | ⟨j, u, u', rfl, rfl, hu'⟩
      · have he : ERs ρ (q.1 ++ [⟨k, v, q.2⟩]) (es' ++ [⟨k', v', q.2⟩]) := h4.append (.cons hk hv .nil)
        obtain ⟨a, b⟩ := put_map hH h1 hL he (q.2 + 1)
        refine ⟨ρ, _, ?_, b, a⟩
        unfold Instr.mapUpdate
        simp only [Sem.run_bind, run_underlying' hu, hget, Result.andThen_ok, hc, k1, hset]
        simp
      · have he := setEntry_sound hv j h4
        obtain ⟨a, b⟩ := put_map hH h1 hL he q.2
        obtain ⟨_, e, e1, e2, e3⟩ := find_at hk 0 h4 h2
        simp only [Nat.sub_zero] at e1
        refine ⟨ρ, _, ?_, b, a⟩
        unfold Instr.mapUpdate
        simp only [Sem.run_bind, run_underlying' hu, hget, Result.andThen_ok, hc, k1]
        have hks : (Instr.keyThatStays ((((⟨es'⟩ : Array MapEntry)[j]?).map (·.key)).getD k') k').run P w = .ok k' w := by
          have : (⟨es'⟩ : Array MapEntry)[j]? = some e := by simpa using e1
          rw [this]
          simp only [Option.map_some, Option.getD_some]
          unfold Instr.keyThatStays
          rw [e3]; rfl
        rw [hks]
        simp only [Result.andThen_ok, hset]
        have : ((⟨es'⟩ : Array MapEntry).modify j fun e => { e with key := k', val := v' }) = ⟨es'.modify j fun e => { e with val := v' }⟩ := by
          apply Array.ext'
          rw [Array.toList_modify]
          apply List.ext_getElem?
          intro i
          rw [List.getElem?_modify, List.getElem?_modify]
          by_cases c : j = i
          · subst c; rw [e1]; simp [← e2]
          · simp [c]
        rw [this]
  · cases h

theorem delete_sound {st st' : St} {w : World} (hH : HR ρ st w) {t ty : TypeId} {m k : AV} {m' k' : Value} (h : deleteA P st t m k = some st') (hm : VR ρ m m') (hk : VR ρ k k') {A : Array TypeId} {X : Array Value} (hA : A[0]? = some t) (hX : X[0]? = some m') (hX1 : X[1]? = some k') :
    Does P ρ st w undefA st' (Builtin.delete_ A ty X) := by
  unfold deleteA at h
  split at h
  · rename_i key elem b hu
    simp only [ifb_none, ob_some, om_some] at h
    obtain ⟨hkk, q, h1, r, h2, rfl⟩ := h
    cases hm with
    | map hL =>
      rename_i L
      obtain ⟨es', h3, h4⟩ := map_at hH h1 hL
      obtain ⟨r', k1, k2⟩ := findKey_sound (P := P) hk hkk h4 h2 w
      have hc := fun b => checkKey_sound (P := P) hk hkk b w
      have hget : (getObj L.blk).run P w = .ok (.map ⟨es'⟩ q.2) w := by simp [getObj, Sem.run, h3]
      have hset : ∀ o, (setObj L.blk o).run P w = .ok () { w with heap := w.heap.setIfInBounds L.blk o } := fun o => by simp [setObj, Sem.run, h3]
      rcases k2 with ⟨rfl, rfl⟩ | ⟨j, u, u', rfl, rfl, hu'⟩
      · obtain ⟨a, b⟩ := put_map hH h1 hL h4 q.2
        refine ⟨ρ, _, .tuple #[], ?_, b, a, .tuple .nil⟩
        unfold Builtin.delete_
        simp only [hA, hX, hX1, Sem.run_bind, run_underlying' hu, hget, Result.andThen_ok, hc, k1, hset, Sem.run_pure]
      · have he := dropEntry_sound j h4
        obtain ⟨a, b⟩ := put_map hH h1 hL he q.2
        refine ⟨ρ, _, .tuple #[], ?_, b, a, .tuple .nil⟩
        unfold Builtin.delete_
        simp only [hA, hX, hX1, Sem.run_bind, run_underlying' hu, hget, Result.andThen_ok, hc, k1, hset, Sem.run_pure]
        have : (⟨es'⟩ : Array MapEntry).eraseIdxIfInBounds j = ⟨es'.eraseIdx j⟩ := by
          apply Array.ext'
          rw [Array.eraseIdxIfInBounds]
          split
          · simp
          · simp only []
            rw [List.eraseIdx_of_length_le (by rename_i hh; simpa using hh)]
        rw [this]
  · rename_i key elem hu
    rw [ifb_none] at h
    obtain ⟨hkk, h⟩ := h
    injection h with h; subst h
    cases hm
    refine ⟨ρ, w, .tuple #[], ?_, Goes.refl, hH, .tuple .nil⟩
    unfold Builtin.delete_
    simp [hA, hX, hX1, run_underlying' hu, checkKey_sound (P := P) hk hkk]
  · cases h


theorem findBorn_sound {n : Nat} : ∀ {es : List AEntry} {es' : List MapEntry} (i : Nat) {j : Nat}, ERs ρ es es' → findBorn n es i = some j → i ≤ j ∧ es'.findIdx? (fun e => (e.born : Int) == (n : Int)) = some (j - i)
  | _, _, i, j, .nil, h => by simp [findBorn] at h
  | _, _, i, j, .cons (n := m) hk hv t, h => by
    simp only [findBorn, ifb_eq] at h
    by_cases c : m = n
    · rw [if_pos (beq_t c)] at h
      injection h with h; subst h
      subst c
      exact ⟨Nat.le_refl _, by simp [List.findIdx?_cons]⟩
    · rw [if_neg (by rw [beq_f c]; simp)] at h
      obtain ⟨h1, h2⟩ := findBorn_sound (i + 1) t h
      refine ⟨by omega, ?_⟩
      have hne : ((m : Int) == (n : Int)) = false := by simp; omega
      rw [List.findIdx?_cons]
      simp only [hne, Bool.false_eq_true, if_false, h2, Option.map_some]
      congr 1; omega

theorem mapEntry_sound {st st' : St} {w : World} (hH : HR ρ st w) {t : TypeId} {m k v : AV} {m' k' : Value} (h : mapEntryA P st t m k = some (v, st')) (hm : VR ρ m m') (hk : VR ρ k k') : Does P ρ st w v st' (Instr.mapEntry t m' k') := by
  unfold mapEntryA at h
  split at h
  · rename_i key elem b hu
    simp only [ifb_none, ob_some] at h
    obtain ⟨hkk, q, h1, r, h2, h⟩ := h
    cases hm with
    | map hL =>
      rename_i L
      obtain ⟨es', h3, h4⟩ := map_at hH h1 hL
      obtain ⟨r', k1, k2⟩ := findKey_sound (P := P) hk hkk h4 h2 w
      have hc := checkKey_sound (P := P) hk hkk false w
      have hget : (getObj L.blk).run P w = .ok (.map ⟨es'⟩ q.2) w := by simp [getObj, Sem.run, h3]
      have hset : ∀ o, (setObj L.blk o).run P w = .ok () { w with heap := w.heap.setIfInBounds L.blk o } := fun o => by simp [setObj, Sem.run, h3]
      rcases k2 with ⟨rfl, rfl⟩ | ⟨j, u, u', rfl, rfl, hu'⟩
      · simp only [om_some] at h
        obtain ⟨z, hz, h⟩ := h
        injection h with e1 e2; subst e1; subst e2
        obtain ⟨z', hz', hzr⟩ := run_zeroValue' (ρ := ρ) hz w
        have he : ERs ρ (q.1 ++ [⟨k, z, q.2⟩]) (es' ++ [⟨k', z', q.2⟩]) := h4.append (.cons hk hzr .nil)
        obtain ⟨a, b⟩ := put_map hH h1 hL he (q.2 + 1)
        refine ⟨ρ, _, .tuple #[z', goInt q.2], ?_, b, a, .tuple (.cons hzr (.cons (.int _ _) .nil))⟩
        unfold Instr.mapEntry
        simp only [Sem.run_bind, run_underlying' hu, hget, Result.andThen_ok, hc, k1, hset, hz']
        simp
      · simp only [om_some, nth_eq] at h
        obtain ⟨e0, he0, h⟩ := h
        injection h with e1 e2; subst e1; subst e2
        obtain ⟨_, e, e1, e2, e3⟩ := find_at hk 0 h4 h2
        simp only [Nat.sub_zero] at e1
        have h3' := h3
        have hborn : e.born = e0.born := by
          clear h2 k1 hset hget hc h3 h3'
          have key : ∀ {a : List AEntry} {b : List MapEntry}, ERs ρ a b → ∀ (j : Nat) (x : AEntry) (y : MapEntry), a[j]? = some x → b[j]? = some y → y.born = x.born := by
            intro a b hab
            induction hab with
            | nil => intro j x y hx; simp at hx
            | cons hk hv t ih =>
              intro j x y hx hy
              cases j with
              | zero => simp at hx hy; subst hx; subst hy; rfl
              | succ j => exact ih j x y (by simpa using hx) (by simpa using hy)
          exact key h4 _ _ _ he0 e1
        obtain ⟨a, b⟩ := put_map_same hH h1 hL h3' h4
        refine ⟨ρ, w, .tuple #[u', goInt e.born], ?_, b, a, ?_⟩
        rotate_left
        · rw [hborn]; exact .tuple (.cons hu' (.cons (.int _ _) .nil))
        have hks : (Instr.keyThatStays ((((⟨es'⟩ : Array MapEntry)[j]?).map (·.key)).getD k') k').run P w = .ok k' w := by
          have : (⟨es'⟩ : Array MapEntry)[j]? = some e := by simpa using e1
          rw [this]
          simp only [Option.map_some, Option.getD_some]
          unfold Instr.keyThatStays
          rw [e3]; rfl
        have hmod : (⟨es'⟩ : Array MapEntry).modify j (fun e => { e with key := k' }) = ⟨es'⟩ := by
          apply Array.ext'
          rw [Array.toList_modify]
          apply List.ext_getElem?
          intro i
          rw [List.getElem?_modify]
          by_cases c : j = i
          · subst c; rw [e1]; simp [← e2]
          · simp [c]
        have hsame : w.heap.setIfInBounds L.blk (.map ⟨es'⟩ q.2) = w.heap := by
          apply Array.ext_getElem?
          intro i
          rw [Array.getElem?_setIfInBounds]
          by_cases c : L.blk = i
          · subst c
            rw [if_pos rfl, h3]
            by_cases c2 : L.blk < w.heap.size
            · simp [c2]
            · rw [Array.getElem?_eq_none (by omega)] at h3; cases h3
          · simp [c]
        have hbe : (((⟨es'⟩ : Array MapEntry)[j]?).map (fun x => (x.born : Int))).getD 0 = (e.born : Int) := by
          have : (⟨es'⟩ : Array MapEntry)[j]? = some e := by simpa using e1
          rw [this]; rfl
        unfold Instr.mapEntry
        simp only [Sem.run_bind, run_underlying' hu, hget, Result.andThen_ok, hc, k1]
        rw [hks]
        simp only [Result.andThen_ok, hset, hmod, hsame, Sem.run_pure, hbe]
  · cases h

theorem entryStore_sound {st st' : St} {w : World} (hH : HR ρ st w) {t : TypeId} {m s v : AV} {m' s' v' : Value} (h : entryStoreA st m s v = some st') (hm : VR ρ m m') (hs : VR ρ s s') (hv : VR ρ v v') : DoesU P ρ st w st' (Instr.entryStore t m' s' v') := by
  unfold entryStoreA at h
  split at h
  · rename_i b k n
    simp only [ifb_none, ob_some, om_some] at h
    obtain ⟨hn, q, h1, i, h2, rfl⟩ := h
    cases hm with
    | map hL =>
      rename_i L
      cases hs
      obtain ⟨es', h3, h4⟩ := map_at hH h1 hL
      obtain ⟨_, k2⟩ := findBorn_sound 0 h4 h2
      have he := setEntry_sound hv i h4
      obtain ⟨a, b'⟩ := put_map hH h1 hL he q.2
      have hget : (getObj L.blk).run P w = .ok (.map ⟨es'⟩ q.2) w := by simp [getObj, Sem.run, h3]
      have hset : ∀ o, (setObj L.blk o).run P w = .ok () { w with heap := w.heap.setIfInBounds L.blk o } := fun o => by simp [setObj, Sem.run, h3]
      refine ⟨ρ, _, ?_, b', a⟩
      have hw : IntKind.i64.wrap (n : Int) = n := wrap_small n (by have := of_ble hn; omega)
      unfold Instr.entryStore
      simp only [Sem.run_bind, hget, Result.andThen_ok, asInt, asIntOf, Sem.run_pure, Int.ofNat_eq_natCast, hw]
      have : (⟨es'⟩ : Array MapEntry).findIdx? (fun e => (e.born : Int) == (n : Int)) = some i := by
        rw [List.findIdx?_toArray, k2]; simp
      rw [this]
      simp only [hset]
      have hm : (⟨es'⟩ : Array MapEntry).modify i (fun e => { e with val := v' }) = ⟨es'.modify i fun e => { e with val := v' }⟩ := by
        apply Array.ext'; rw [Array.toList_modify]
      rw [hm]
  · cases h

/-! append, copy, clear. -/
theorem str_cells : ∀ (l : List UInt8), VRs ρ (l.map fun b => .int .u8 (.ofNat b.toNat)) (l.map fun b => .int .u8 (b.toNat : Int))
  | [] => .nil
  | b :: l => .cons (.int _ _) (str_cells l)
theorem lenOf_sound {x : AV} {x' : Value} {n : Nat} (h : lenA x = some n) (hx : VR ρ x x') (w : World) : (Builtin.lenOf x').run P w = .ok n w := by
  unfold lenA at h
  split at h <;> first | (cases h; done) | (injection h with h; subst h; cases hx <;> rfl)
theorem firstCells_sound {st : St} {w : World} (hH : HR ρ st w) {size n : Nat} {x : AV} {x' : Value} {cs : List AV} (h : srcCells st size n x = some cs) (hx : VR ρ x x') (hn : ∀ m, lenA x = some m → n ≤ m) :
    ∃ cs' : List Value, (∀ m : Nat, (Builtin.firstCells size n x').run P { w with drawn := m } = .ok ⟨cs'⟩ { w with drawn := m }) ∧ VRs ρ cs cs' ∧ cs.length = n * size := by
  unfold srcCells at h
  split at h
  · rename_i b o len cap ex e
    simp only [ifb_none, ob_some] at h
    obtain ⟨h1, r, h2, h3⟩ := h
    have he : e = size := of_beq h1
    subst he
    have hnl := hn len rfl
    cases hx with
    | slice hL hlen hcap hex hA =>
      rename_i L a cap'
      by_cases c : n * e = 0
      · have h3' : sub o 0 r.1 = some cs := by rw [← c]; exact h3
        obtain ⟨_, _, h5⟩ := sub_some h3'
        obtain rfl : cs = [] := List.length_eq_zero_iff.1 h5
        refine ⟨[], fun m => ?_, .nil, c.symm⟩
        simp [Builtin.firstCells, c, loadCells, loadCellsFrom]
      · have hne : n ≠ 0 := fun e0 => c (by rw [e0]; simp)
        rcases hA with hA | ⟨rfl, _⟩
        · omega
        · obtain ⟨L', hL', hO⟩ := hH.obj _ _ (rowOf_some.1 h2)
          obtain rfl : L' = L := by rw [hL] at hL'; injection hL' with h; exact h.symm
          obtain ⟨l', k1, k2⟩ := loadCells_all (P := P) hO h3
          exact ⟨l', fun m => by simp only [Builtin.firstCells]; exact k1 m, k2, (sub_some h3).2.2⟩
  · injection h with h; subst h
    cases hx
    have := hn 0 rfl
    exact ⟨[], fun m => rfl, .nil, by rw [show n = 0 by omega]; simp⟩
  · rename_i s
    rw [ifb_none, om_some] at h
    obtain ⟨hs1, l, h1, rfl⟩ := h
    have hs1' : size = 1 := of_beq hs1
    rw [takeX_some] at h1
    obtain ⟨h1, rfl⟩ := h1
    cases hx
    refine ⟨(s.data.toList.take n).map fun b => .int .u8 (b.toNat : Int), fun m => ?_, str_cells _, by
      have h9 : n ≤ s.size := by simpa using h1
      rw [hs1']; simp; omega⟩
    simp only [Builtin.firstCells, Sem.run_pure]
    congr 2
    apply Array.ext'
    simp [ByteArray.extract, ByteArray.copySlice]
  · rename_i l n0 cap ex own e
    rw [ifb_none] at h
    obtain ⟨h1, h3⟩ := h
    have he : e = size := of_beq h1
    subst he
    have hnl := hn n0 rfl
    cases hx with
    | vs hv hsc hl hlen hcap hex hA hO =>
      rename_i l' a cap' blk off
      by_cases c : n * e = 0
      · have h3' : sub 0 0 l = some cs := by have h4 := h3; rw [show Nat.mul n e = 0 from c] at h4; exact h4
        obtain ⟨_, _, h5⟩ := sub_some h3'
        obtain rfl : cs = [] := List.length_eq_zero_iff.1 h5
        refine ⟨[], fun m => ?_, .nil, c.symm⟩
        simp [Builtin.firstCells, c, loadCells, loadCellsFrom]
      · have hne : n ≠ 0 := fun e0 => c (by rw [e0]; simp)
        rcases hA with hA | ⟨rfl, hm⟩
        · omega
        · obtain ⟨l1, k1, k2⟩ := loadCells_at (P := P) (o := 0) (n := n * e) (mem_at hH hv hm) h3
          exact ⟨l1, fun m => by simp only [Builtin.firstCells]; have := k1 m; rw [Nat.add_zero] at this; exact this, k2, (sub_some h3).2.2⟩
    | vsNil =>
      obtain rfl : n = 0 := by omega
      have h3' : sub 0 0 ([] : List AV) = some cs := by have h4 := h3; rw [show Nat.mul 0 e = 0 from Nat.zero_mul _] at h4; exact h4
      obtain ⟨_, _, h5⟩ := sub_some h3'
      obtain rfl : cs = [] := List.length_eq_zero_iff.1 h5
      exact ⟨[], fun m => rfl, .nil, by simp⟩
  · cases h


/-- What the model knows of the appended source: how many, by whichever way it counts. -/
inductive Src (P : Program) (w : World) (elem size bytes : Nat) : Option TypeId → Value → Nat → List Value → Prop where
  | plain {xT : Option TypeId} {x : Value} {n : Nat} {new : List Value} (h : xT = none ∨ ∃ t d, xT = some t ∧ P.underlying t = some d ∧ ∀ k, d ≠ .int k) (h1 : (Builtin.lenOf x).run P w = .ok n w)
      (h2 : ∀ m, (Builtin.firstCells size n x).run P { w with drawn := m } = .ok ⟨new⟩ { w with drawn := m }) : Src P w elem size bytes xT x n new
  | zeros {t : TypeId} {k k' : IntKind} {n : Nat} {z : Value} (h : P.underlying t = some (.int k)) (h1 : IntKind.i64.wrap (n : Int) = n) (h2 : ¬ ((281474976710656 : Int) < (n : Int) * (bytes : Int)))
      (h3 : ∀ m, (zeroValue elem).run P { w with drawn := m } = .ok z { w with drawn := m }) (h4 : z.cells.size = size) : Src P w elem size bytes (some t) (.int k' n) n (repl n z.cells.toList)

theorem zeroCells_eq (z : Array Value) (n : Nat) : (Builtin.zeroCells z n).toList = repl n z.toList := range_repl z n _ rfl

theorem append_fit {w : World} {A : Array TypeId} {X : Array Value} {sT ty : TypeId} {xT : Option TypeId} {x : Value} {base : Option Addr} {sLen sCap n elem : Nat} {i : TypeInfo} {new : List Value}
    (hA : A[0]? = some sT) (hA1 : A[1]? = xT) (hX : X[0]? = some (.slice base sLen sCap)) (hX1 : X[1]? = some x) (hu : P.underlying sT = some (.slice elem)) (hi : P.info? elem = some i)
    (hs : Src P w elem i.size i.bytes xT x n new) (hfit : sLen + n ≤ sCap) {w' : World} (hst : ∀ a, base = some a → (storeCells (a.add (sLen * i.size)) new).run P w = .ok () w') (hno : base = none → w' = w) :
    (Builtin.append_ A ty X).run P w = .ok (.slice base (sLen + n) sCap) w' := by
  have hsz := run_sizeOf' (szT_some.2 ⟨i, hi, rfl⟩ : szT P elem = some i.size)
  cases hs with
  | plain h h1 h2 =>
    have h2' := h2 w.drawn
    unfold Builtin.append_
    rcases h with rfl | ⟨t, d, rfl, hd, hk⟩
    · cases base with
      | none => simp [hA, hA1, hX, hX1, run_underlying' hu, hsz, h1, hfit, h2', hno rfl]
      | some a => simp [hA, hA1, hX, hX1, run_underlying' hu, hsz, h1, hfit, h2', hst a rfl]
    · have hd' : (match d with | .int _ => true | _ => false) = false := by cases d <;> first | rfl | exact absurd rfl (hk _)
      cases base with
      | none => simp [hA, hA1, hX, hX1, run_underlying' hu, run_underlying' hd, hd', hsz, h1, hfit, h2', hno rfl]
      | some a => simp [hA, hA1, hX, hX1, run_underlying' hu, run_underlying' hd, hd', hsz, h1, hfit, h2', hst a rfl]
  | zeros h h1 h2 h3 h4 =>
    rename_i t k k' z
    have h3' := h3 w.drawn
    have hneg : ¬ ((n : Int) < 0) := by omega
    unfold Builtin.append_
    by_cases c : n * i.size = 0
    · have he : repl n z.cells.toList = [] := List.length_eq_zero_iff.1 (by rw [repl_length]; simpa [h4] using c)
      rw [he] at hst
      cases base with
      | none => simp [hA, hA1, hX, hX1, run_underlying' hu, run_underlying' h, hsz, asInt, asIntOf, h1, hneg, run_typeInfo' hi, h2, hfit, c, hno rfl]
      | some a => simp [hA, hA1, hX, hX1, run_underlying' hu, run_underlying' h, hsz, asInt, asIntOf, h1, hneg, run_typeInfo' hi, h2, hfit, c, hst a rfl]
    · cases base with
      | none => simp [hA, hA1, hX, hX1, run_underlying' hu, run_underlying' h, hsz, asInt, asIntOf, h1, hneg, run_typeInfo' hi, h2, hfit, c, h3', zeroCells_eq, hno rfl]
      | some a => simp [hA, hA1, hX, hX1, run_underlying' hu, run_underlying' h, hsz, asInt, asIntOf, h1, hneg, run_typeInfo' hi, h2, hfit, c, h3', zeroCells_eq, hst a rfl]


theorem cap_le {need c : Nat} (h : c < need) : Builtin.nextslicecap need c ≤ 3 * need + 2000 := by
  unfold Builtin.nextslicecap
  split
  · omega
  · split
    · omega
    · simp only [Builtin.growBy]
      (repeat' split) <;> omega

set_option maxRecDepth 100000 in
theorem grow_room {need b c : Nat} (h : c ≤ 3 * need + 2000) : c * b ≤ 2 * ((2 * need + 1024) * (b + 1)) := by
  have h2 : c ≤ 2 * (2 * need + 1024) := by omega
  have h3 : c * b ≤ (2 * (2 * need + 1024)) * (b + 1) := Nat.mul_le_mul h2 (Nat.le_succ b)
  rw [Nat.mul_assoc] at h3
  exact h3
theorem le_prod (need b : Nat) : need ≤ (2 * need + 1024) * (b + 1) := by
  have h1 : (2 * need + 1024) * 1 ≤ (2 * need + 1024) * (b + 1) := Nat.mul_le_mul_left _ (by omega)
  omega

set_option maxRecDepth 100000 in
theorem append_grow {w : World} {A : Array TypeId} {X : Array Value} {sT ty : TypeId} {xT : Option TypeId} {x : Value} {base : Option Addr} {sLen sCap n elem : Nat} {i : TypeInfo} {new old : List Value} {z : Value}
    (hA : A[0]? = some sT) (hA1 : A[1]? = xT) (hX : X[0]? = some (.slice base sLen sCap)) (hX1 : X[1]? = some x) (hu : P.underlying sT = some (.slice elem)) (hi : P.info? elem = some i)
    (hs : Src P w elem i.size i.bytes xT x n new) (hfit : sCap < sLen + n) (hroom : roomy (sLen + n) i.bytes = true)
    (hold : ∀ m, (Builtin.firstCells i.size sLen (.slice base sLen sCap)).run P { w with drawn := m } = .ok ⟨old⟩ { w with drawn := m }) (hz : ∀ m, (zeroValue elem).run P { w with drawn := m } = .ok z { w with drawn := m }) :
    ∃ cap', sLen + n ≤ cap' ∧ (Builtin.append_ A ty X).run P w = .ok (.slice (some ⟨w.heap.size, 0, none⟩) (sLen + n) cap')
      (worldNew { w with drawn := w.drawn + 1 } (.cells ⟨old ++ new ++ repl (cap' - (sLen + n)) z.cells.toList⟩ elem)) := by
  have hsz := run_sizeOf' (szT_some.2 ⟨i, hi, rfl⟩ : szT P elem = some i.size)
  have hr := roomy_some hroom
  have hc := cap_le hfit
  have hneed : sLen + n ≤ 70368744177664 := Nat.le_trans (le_prod (sLen + n) i.bytes) hr
  have hbytes : Builtin.nextslicecap (sLen + n) sCap * i.bytes ≤ 140737488355328 := Nat.le_trans (grow_room hc) (Nat.mul_le_mul_left 2 hr)
  have hb1 : ¬ (((sLen + n : Nat) : Int) > IntKind.i64.max) := by
    have : IntKind.i64.max = 9223372036854775807 := by decide
    rw [this]
    generalize sLen + n = y at hneed
    omega
  have hb2 : ¬ (Builtin.nextslicecap (sLen + n) sCap * i.bytes > 2 ^ 48) := fun h => by
    have e : (2 : Nat) ^ 48 = 281474976710656 := by decide
    rw [e] at h
    exact absurd (Nat.lt_of_lt_of_le h hbytes) (by decide)
  have hnf : ¬ (sLen + n ≤ sCap) := by omega
  refine ⟨(Question.appendCap (sLen + n) sCap elem).cut (w.tape w.drawn (.appendCap (sLen + n) sCap elem)), Nat.le_add_right _ _, ?_⟩
  have hq : (Question.appendCap (sLen + n) sCap elem).forced = false := rfl
  have hz0 := hz w.drawn
  have hz1 := hz (w.drawn + 1)
  have ho1 := hold (w.drawn + 1)
  have hrest : ∀ m : Nat, (Builtin.zeroCells z.cells m) = ⟨repl m z.cells.toList⟩ := fun m => Array.ext' (zeroCells_eq _ _)
  cases hs with
  | plain h h1 h2 =>
    have h2' := h2 w.drawn
    have h2'' := h2 (w.drawn + 1)
    unfold Builtin.append_
    have tail := fun (a : Array Value) => show ((newRow elem a).run P { w with drawn := w.drawn + 1 }) = .ok ⟨w.heap.size, 0, none⟩ (worldNew { w with drawn := w.drawn + 1 } (.cells a elem)) from rfl
    rcases h with rfl | ⟨t, d, rfl, hd, hk⟩
    · simp only [hA, hA1, hX, hX1, Sem.run_bind, run_underlying' hu, Result.andThen_ok, hsz, Sem.run_pure, h1, Bool.false_eq_true, if_false, hnf, run_typeInfo' hi]
      rw [if_neg (fun h => hb1 h.1)]
      simp only [Sem.run_bind, run_typeInfo' hi, Result.andThen_ok, if_neg hb2, run_choose, hq, Bool.false_eq_true, if_false, run_askRoom]
      rw [ho1]
      simp only [Result.andThen_ok, Bool.not_false, if_true, h2'', hz1, hrest, tail, Sem.run_pure]
      simp
    · have hd' : (match d with | .int _ => true | _ => false) = false := by cases d <;> first | rfl | exact absurd rfl (hk _)
      simp only [hA, hA1, hX, hX1, Sem.run_bind, run_underlying' hu, run_underlying' hd, hd', Result.andThen_ok, hsz, Sem.run_pure, h1, Bool.false_eq_true, if_false, hnf, run_typeInfo' hi]
      rw [if_neg (fun h => hb1 h.1)]
      simp only [Sem.run_bind, run_typeInfo' hi, Result.andThen_ok, if_neg hb2, run_choose, hq, Bool.false_eq_true, if_false, run_askRoom]
      rw [ho1]
      simp only [Result.andThen_ok, Bool.not_false, if_true, h2'', hz1, hrest, tail, Sem.run_pure]
      simp
  | zeros h h1 h2 h3 h4 =>
    rename_i t k k' z2
    have h3' := h3 (w.drawn + 1)
    have hzz : z2 = z := by rw [hz1] at h3'; injection h3' with h3' _; exact h3'.symm
    subst hzz
    have hneg : ¬ ((n : Int) < 0) := by omega
    have tail := fun (a : Array Value) => show ((newRow elem a).run P { w with drawn := w.drawn + 1 }) = .ok ⟨w.heap.size, 0, none⟩ (worldNew { w with drawn := w.drawn + 1 } (.cells a elem)) from rfl
    have happ : (if (!true) = true then Builtin.firstCells i.size n (.int k' n)
            else
              if n * i.size = 0 then pure #[]
              else do
                let __do_lift ← zeroValue elem
                pure (Builtin.zeroCells __do_lift.cells n) : Sem (Array Value)).run P { w with drawn := w.drawn + 1 } = .ok ⟨repl n z2.cells.toList⟩ { w with drawn := w.drawn + 1 } := by
      simp only [Bool.not_true, Bool.false_eq_true, if_false]
      by_cases c : n * i.size = 0
      · have he : repl n z2.cells.toList = [] := List.length_eq_zero_iff.1 (by rw [repl_length]; simpa [h4] using c)
        rw [if_pos c, he]; rfl
      · rw [if_neg c]
        simp only [Sem.run_bind, hz1, Result.andThen_ok, hrest, Sem.run_pure]
    have h2b : ¬ ((n : Int) * (i.bytes : Int) > 2 ^ 48) := fun h => h2 (by rw [show (2 : Int) ^ 48 = 281474976710656 from by decide] at h; exact h)
    unfold Builtin.append_
    simp only [hA, hA1, hX, hX1, Sem.run_bind, run_underlying' hu, run_underlying' h, Result.andThen_ok, hsz, Sem.run_pure, asInt, asIntOf, h1, if_true, if_neg hneg, if_neg h2b, run_typeInfo' hi, Int.toNat_natCast, hnf, if_false]
    rw [if_neg (fun h => hb1 h.1)]
    simp only [Sem.run_bind, run_typeInfo' hi, Result.andThen_ok, if_neg hb2, run_choose, hq, Bool.false_eq_true, if_false, run_askRoom]
    rw [ho1]
    simp only [Result.andThen_ok]
    erw [happ]
    simp only [Result.andThen_ok, hz1, hrest, tail, Sem.run_pure]
    simp


theorem zero_any {elem : TypeId} {z : AV} (h : zeroT P elem = some z) (ρ : Names) : ∃ z', (∀ w : World, (zeroValue elem).run P w = .ok z' w) ∧ VR ρ z z' := by
  simp only [zeroT, ob_some] at h
  obtain ⟨i, h1, z', h2, h3⟩ := h
  exact ⟨z', fun w => by simp [zeroValue, run_typeInfo' h1, h2], ofVal_sound ρ _ _ _ h3⟩

set_option maxRecDepth 100000 in
theorem src_sound {st : St} {w : World} (hH : HR ρ st w) {elem : TypeId} {i : TypeInfo} {z : AV} (hz : zeroT P elem = some z) (hzl : z.cells.length = i.size) {xT : Option TypeId} {zs : Bool} (hxT : zerosT P xT = some zs) {x : AV} {x' : Value} (hx : VR ρ x x')
    {q : Nat × List AV} (h : newCells st i z zs x = some q) : ∃ new' : List Value, Src P w elem i.size i.bytes xT x' q.1 new' ∧ VRs ρ q.2 new' ∧ q.2.length = q.1 * i.size := by
  unfold newCells at h
  cases zs with
  | true =>
    rw [ifb_true] at h
    split at h
    · rename_i k n
      rw [ifb_none, Bool.and_eq_true] at h
      obtain ⟨⟨h1, h2⟩, h3⟩ := h
      injection h3 with h3; subst h3
      cases hx
      have e1 := of_ble h1
      have e2 := roomy_some h2
      obtain ⟨z', k1, k2⟩ := zero_any hz ρ
      have hzc := k2.cells
      have hz2 : z'.cells.size = i.size := by rw [← hzl, ← hzc.length]; simp
      unfold zerosT at hxT
      cases xT with
      | none => cases hxT
      | some t =>
        simp only at hxT
        cases hu : P.underlying t with
        | none => rw [hu] at hxT; cases hxT
        | some d =>
          rw [hu] at hxT
          cases d <;> simp only [Option.some.injEq, Bool.false_eq_true, reduceCtorEq] at hxT
          rename_i kk
          refine ⟨repl n z'.cells.toList, .zeros hu (wrap_small n (by omega)) ?_ (fun m => k1 _) hz2, hzc.repl n, by rw [repl_length, hzl]⟩
          intro hlt
          have h5 : n * i.bytes ≤ (2 * n + 1024) * (i.bytes + 1) := Nat.mul_le_mul (by omega) (Nat.le_succ _)
          have h6 : n * i.bytes ≤ 70368744177664 := Nat.le_trans h5 e2
          have h7 : ((n * i.bytes : Nat) : Int) ≤ ((70368744177664 : Nat) : Int) := Int.ofNat_le.2 h6
          rw [Int.natCast_mul] at h7
          generalize (n : Int) * (i.bytes : Int) = y at *
          omega
    · cases h
  | false =>
    rw [ifb_false] at h
    simp only [ob_some, om_some] at h
    obtain ⟨n, h1, cs, h2, rfl⟩ := h
    obtain ⟨cs', hall, k2, k3⟩ := firstCells_sound (P := P) hH h2 hx (fun k hk => by rw [h1] at hk; injection hk with hk; omega)
    refine ⟨cs', .plain ?_ (lenOf_sound h1 hx w) hall, k2, k3⟩
    · unfold zerosT at hxT
      cases xT with
      | none => exact .inl rfl
      | some t =>
        simp only at hxT
        cases hu : P.underlying t with
        | none => rw [hu] at hxT; cases hxT
        | some d =>
          rw [hu] at hxT
          refine .inr ⟨t, d, rfl, hu, fun k e => ?_⟩
          subst e
          simp at hxT


theorem rowAt_more {cs : List AV} {more : List Value} {e : TypeId} {cs' : List Value} (h : VRs ρ cs cs') (hs : allScalar cs = true) (b : Nat) :
    RowAt ρ ⟨b, 0, cs'.length + more.length⟩ cs (some (.cells ⟨cs' ++ more⟩ e)) := by
  refine ⟨⟨cs' ++ more⟩, e, 0, 0, rfl, by simp, by rw [← h.length]; simp, fun i _ hh => by omega, fun i v hv => ⟨allScalar_iff.1 hs _ (List.mem_of_getElem? hv), ?_⟩⟩
  obtain ⟨v', h1, h2⟩ := h.get hv
  refine ⟨v', ?_, h2⟩
  have hi : i < cs'.length := by
    rcases Nat.lt_or_ge i cs'.length with h | h
    · exact h
    · rw [List.getElem?_eq_none h] at h1; cases h1
  simp [List.getElem?_append_left hi, h1]

set_option maxRecDepth 100000 in
theorem append_sound {st st' : St} {w : World} (hH : HR ρ st w) {sT ty : TypeId} {xT : Option TypeId} {s x v : AV} {s' x' : Value} (h : appendA P st sT xT s x = some (v, st')) (hs : VR ρ s s') (hx : VR ρ x x')
    {A : Array TypeId} {X : Array Value} (hA : A[0]? = some sT) (hA1 : A[1]? = xT) (hX : X[0]? = some s') (hX1 : X[1]? = some x') : Does P ρ st w v st' (Builtin.append_ A ty X) := by
  unfold appendA at h
  split at h
  rotate_left
  · cases h
  rename_i elem hu
  simp only [ob_some, ifb_none, Bool.and_eq_true] at h
  obtain ⟨i, hi, z, hz, zs, hzs, q, hq, ⟨hsc, hzl⟩, h⟩ := h
  have hzl' : z.cells.length = i.size := of_beq hzl
  obtain ⟨new', src, hnew, hnl⟩ := src_sound hH hz hzl' hzs hx hq
  have hnl' : new'.length = q.1 * i.size := by rw [hnew.length, hnl]
  obtain ⟨z', hz', hzr⟩ := zero_any hz ρ
  have hz2 : z'.cells.size = i.size := by rw [← hzl', ← hzr.cells.length]; simp
  have hz3 : z'.cells.toList.length = i.size := by simpa using hz2
  -- the end of every way on which a new row is made
  have grown : ∀ (base : Option Addr) (sLen sCap : Nat) (old : List AV) (old' : List Value) (st1 : St), s' = .slice base sLen sCap → sCap < sLen + q.1 → roomy (sLen + q.1) i.bytes = true →
      (∀ m, (Builtin.firstCells i.size sLen (.slice base sLen sCap)).run P { w with drawn := m } = .ok ⟨old'⟩ { w with drawn := m }) → VRs ρ old old' → allScalar old = true → old'.length = sLen * i.size → st1.next = st.next → HR ρ st1 w → Goes ρ st w ρ st1 w →
      Does P ρ st w (.slice st.next 0 (sLen + q.1) (sLen + q.1) false i.size) (st1.new (.row (old ++ q.2) elem)) (Builtin.append_ A ty X) := by
    intro base sLen sCap old old' st1 hsv hfit hroom hold holdr holds hol hnx hH1 hG1
    subst hsv
    obtain ⟨cap', hc, hrun⟩ := append_grow (ty := ty) hA hA1 hX hX1 hu hi src hfit hroom hold (fun m => hz' _)
    have hfresh1 : ρ st1.next = none := hH1.fresh
    let L : Loc := ⟨w.heap.size, 0, (old' ++ new').length + (repl (cap' - (sLen + q.1)) z'.cells.toList).length⟩
    have hle := Names.set_le L hfresh1
    have hrow : RowAt (ρ.set st1.next L) L (old ++ q.2) (some (.cells ⟨(old' ++ new') ++ repl (cap' - (sLen + q.1)) z'.cells.toList⟩ elem)) :=
      rowAt_more ((holdr.append hnew).mono hle) (allScalar_append holds hsc) _
    obtain ⟨a, b⟩ := (hH1.drew (w.drawn + 1)).new (.row (old ++ q.2) elem) L (.cells ⟨(old' ++ new') ++ repl (cap' - (sLen + q.1)) z'.cells.toList⟩ elem) rfl hrow
    refine ⟨_, _, _, hrun, (hG1.drew (w.drawn + 1)).trans b, a, ?_⟩
    rw [← hnx]
    refine .slice (Names.set_same _ _ _) (Nat.le_refl _) hc (fun e => by cases e) (.inr ⟨rfl, ?_⟩)
    show 0 + 0 + cap' * i.size ≤ (old' ++ new').length + (repl (cap' - (sLen + q.1)) z'.cells.toList).length
    rw [repl_length, hz3, List.length_append, hol, hnl', ← Nat.add_mul, ← Nat.add_mul]
    have : sLen + q.1 + (cap' - (sLen + q.1)) = cap' := by omega
    rw [this]; omega
  have grownVs : ∀ (base : Option Addr) (sLen sCap : Nat) (old : List AV) (old' : List Value) (st1 : St), s' = .slice base sLen sCap → sCap < sLen + q.1 → roomy (sLen + q.1) i.bytes = true →
      (∀ m, (Builtin.firstCells i.size sLen (.slice base sLen sCap)).run P { w with drawn := m } = .ok ⟨old'⟩ { w with drawn := m }) → VRs ρ old old' → allScalar old = true → old'.length = sLen * i.size → st1.next = st.next → HR ρ st1 w → Goes ρ st w ρ st1 w →
      Does P ρ st w (.vs (old ++ q.2) (sLen + q.1) (sLen + q.1) false (some st.next) i.size) (st1.new .spare) (Builtin.append_ A ty X) := by
    intro base sLen sCap old old' st1 hsv hfit hroom hold holdr holds hol hnx hH1 hG1
    subst hsv
    obtain ⟨cap', hc, hrun⟩ := append_grow (ty := ty) hA hA1 hX hX1 hu hi src hfit hroom hold (fun m => hz' _)
    obtain ⟨a, b⟩ := (hH1.drew (w.drawn + 1)).newVs (old' ++ new') ⟨old' ++ new' ++ repl (cap' - (sLen + q.1)) z'.cells.toList⟩ elem (by simp) (fun j v hj => by
      have hlt : j < (old' ++ new').length := by
        rcases Nat.lt_or_ge j (old' ++ new').length with h | h
        · exact h
        · rw [List.getElem?_eq_none h] at hj; cases hj
      simp only [List.getElem?_toArray]
      rw [List.getElem?_append_left hlt]; exact hj)
    refine ⟨_, _, _, hrun, (hG1.drew (w.drawn + 1)).trans b, a, ?_⟩
    rw [← hnx]
    have hlen : (old ++ q.2).length = (sLen + q.1) * i.size := by rw [List.length_append, ← holdr.length, hol, hnl, Nat.add_mul]
    have hlen' : (old' ++ new').length = (sLen + q.1) * i.size := by rw [List.length_append, hol, hnl', Nat.add_mul]
    refine .vs (blk := w.heap.size) (off := 0) ((holdr.append hnew).mono b.le) (allScalar_append holds hsc) hlen (Nat.le_refl _) hc (fun e => by cases e) (.inr ⟨rfl, fun j v hj => Names.add_at _ _ _ _ hj⟩) ?_
    intro b' hb'
    injection hb' with hb'; subst hb'
    refine ⟨rfl, fun j v hj => Names.add_at _ _ _ _ hj, _, Names.set_same _ _ _, rfl, ?_, ?_⟩
    · show (old' ++ new').length = 0 + _; rw [hlen']; omega
    · show 0 + cap' * i.size ≤ (old' ++ new' ++ repl (cap' - (sLen + q.1)) z'.cells.toList).length
      rw [List.length_append, repl_length, hz3, hlen', ← Nat.add_mul]
      have : sLen + q.1 + (cap' - (sLen + q.1)) = cap' := by omega
      rw [this]; omega
  split at h
  · -- nil
    cases hs
    by_cases c : q.1 = 0
    · rw [beq_t c, ifb_true] at h
      injection h with h; injection h with h1 h2; subst h1; subst h2
      have hn0 : new' = [] := List.length_eq_zero_iff.1 (by rw [hnl', c]; simp)
      have := append_fit (ty := ty) (w' := w) hA hA1 hX hX1 hu hi src (by rw [c]; omega) (fun a ha => by cases ha) (fun _ => rfl)
      rw [c] at this
      exact ⟨ρ, w, _, this, Goes.refl, hH, .nilSlice⟩
    · rw [beq_f c, ifb_false, ifb_none] at h
      obtain ⟨hroom, h⟩ := h
      cases hvm : (and st.vm (not (st.rw elem))) with
      | false =>
        rw [hvm, ifb_false] at h
        injection h with h; injection h with h1 h2; subst h1; subst h2
        have := grown none 0 0 [] [] st rfl (by omega) (by rw [Nat.zero_add]; exact hroom) (fun m => rfl) .nil rfl (by simp) rfl hH Goes.refl
        rw [Nat.zero_add, List.nil_append] at this
        exact this
      | true =>
        rw [hvm, ifb_true] at h
        injection h with h; injection h with h1 h2; subst h1; subst h2
        have := grownVs none 0 0 [] [] st rfl (by omega) (by rw [Nat.zero_add]; exact hroom) (fun m => rfl) .nil rfl (by simp) rfl hH Goes.refl
        rw [Nat.zero_add, List.nil_append] at this
        exact this
  · rename_i b o len cap ex e
    rw [ifb_none] at h
    obtain ⟨he, h⟩ := h
    have he' : e = i.size := of_beq he
    subst he'
    cases hs with
    | slice hL hlen hcap hex hAd =>
      rename_i L a cap'
      by_cases c : len + q.1 ≤ cap
      · rw [show Nat.ble (Nat.add len q.1) cap = true from ble_t c, ifb_true] at h
        by_cases c0 : q.1 = 0
        · rw [beq_t c0, ifb_true] at h
          injection h with h; injection h with h1 h2; subst h1; subst h2
          have hn0 : new' = [] := List.length_eq_zero_iff.1 (by rw [hnl', c0]; simp)
          have := append_fit (ty := ty) (w' := w) hA hA1 hX hX1 hu hi src (by omega) (fun a' ha => by rw [hn0]; rfl) (fun h => by cases h)
          rw [c0, Nat.add_zero] at this
          exact ⟨ρ, w, _, this, Goes.refl, hH, .slice hL hlen hcap hex hAd⟩
        · rw [beq_f c0, ifb_false, om_some] at h
          obtain ⟨st1, h1, h2⟩ := h
          injection h2 with h2 h3; subst h2; subst h3
          have hAd' : a = ⟨L.blk, L.off + o, none⟩ := by
            rcases hAd with hAd | hAd
            · omega
            · exact hAd.1
          obtain ⟨w', k1, k2, k3⟩ := storeCells_sound (P := P) hH h1 hL hnew
          have := append_fit (ty := ty) (w' := w') hA hA1 hX hX1 hu hi src (by omega) (fun a' ha => by
            injection ha with ha; subst ha; rw [hAd', addr_add, Nat.add_assoc]; exact k1) (fun h => by cases h)
          exact ⟨ρ, w', _, this, k3, k2, .slice hL c hcap hex hAd⟩
      · rw [show Nat.ble (Nat.add len q.1) cap = false from ble_f (by show cap < len + q.1; omega), ifb_false, ifb_none] at h
        obtain ⟨hroom, h⟩ := h
        simp only [ob_some] at h
        obtain ⟨r, h1, old, h2, h3⟩ := h
        have h0 := rowOf_some.1 h1
        obtain ⟨L', hL', hO⟩ := hH.obj _ _ h0
        obtain rfl : L' = L := by rw [hL] at hL'; injection hL' with h; exact h.symm
        obtain ⟨s1, s2, s3⟩ := sub_some h2
        have s3' : old.length = len * i.size := s3
        have s2' : old = List.take (len * i.size) (List.drop o r.1) := s2
        have holds : allScalar old = true := by
          rw [allScalar_iff]
          intro u hu'
          rw [s2] at hu'
          have := List.mem_of_mem_drop (List.mem_of_mem_take hu')
          obtain ⟨j, hj, rfl⟩ := List.getElem_of_mem this
          obtain ⟨arr, e0, lo, hi0, r1, r2, r3, r4, r5⟩ := hO
          exact (r5 j _ (List.getElem?_eq_getElem hj)).1
        obtain ⟨old', hold, holdr, _⟩ := firstCells_sound (P := P) (size := i.size) (n := len) (cs := old) hH (x := .slice b o len cap ex i.size) (x' := .slice (some a) len cap')
          (by simp only [srcCells, ifb_none, ob_some]; exact ⟨beq_t rfl, r, h1, h2⟩) (.slice hL hlen hcap hex hAd) (fun m hm => by injection hm with hm; omega)
        have hol : old'.length = len * i.size := by rw [holdr.length, s3']
        cases ex with
        | true =>
          rw [ifb_true] at h3
          injection h3 with h3; injection h3 with h4 h5; subst h4; subst h5
          have := hex rfl
          exact grown (some a) len cap' old old' st rfl (by omega) hroom hold holdr holds hol rfl hH Goes.refl
        | false =>
          rw [ifb_false, ifb_none] at h3
          obtain ⟨hend, h3⟩ := h3
          injection h3 with h3; injection h3 with h4 h5; subst h4; subst h5
          rw [Bool.and_eq_true] at hend
          have ho0 : o = 0 := of_beq hend.1
          have hend' : o + len * i.size = r.1.length := of_beq hend.2
          by_cases c2 : len + q.1 ≤ cap'
          · -- in place
            have hAd' : a = ⟨L'.blk, L'.off + o, none⟩ ∧ L'.off + o + cap' * i.size ≤ L'.tot := by
              rcases hAd with hAd | hAd
              · omega
              · exact hAd
            obtain ⟨arr, e0, lo, hi0, r1, r2, r3, r4, r5⟩ := hO
            have hroom2 : L'.off + o + (len + q.1) * i.size ≤ L'.tot := by
              have : (len + q.1) * i.size ≤ cap' * i.size := Nat.mul_le_mul_right _ c2
              omega
            rw [Nat.add_mul] at hroom2
            obtain ⟨arr', a1, a2, a3⟩ := storeCells_run (P := P) (o := L'.off + o + len * i.size) new' 0 arr w r1 (by rw [hnl', r2]; omega) (by rw [r2]; exact r4)
              (fun v' hv' => by
                obtain ⟨j, hj, rfl⟩ := List.getElem_of_mem hv'
                have hj' : j < q.2.length := by rw [← hnew.length]; exact hj
                obtain ⟨u, hu', hr⟩ := hnew.get (List.getElem?_eq_getElem hj')
                rw [List.getElem?_eq_getElem hj] at hu'
                injection hu' with hu'
                exact hu' ▸ hr.oneCell (allScalar_iff.1 hsc _ (List.getElem_mem hj')))
            have hrun := append_fit (ty := ty) hA hA1 hX hX1 hu hi src c2 (fun a' ha => by
              injection ha with ha; subst ha; rw [hAd'.1, addr_add]; exact a3) (fun h => by cases h)
            have hle := Names.set_le (⟨L'.blk, L'.off + o, L'.tot⟩ : Loc) hH.fresh
            have hrow : RowAt (ρ.set st.next ⟨L'.blk, L'.off + o, L'.tot⟩) ⟨L'.blk, L'.off + o, L'.tot⟩ (old ++ q.2) (some (.cells arr' e0 (lo, hi0))) := by
              refine ⟨arr', e0, lo, hi0, rfl, by rw [a1, r2], ?_, r4, ?_⟩
              · refine ⟨by show L'.off + o = 0; have := r3.1; omega, ?_⟩
                show L'.off + o + (old ++ q.2).length ≤ L'.tot
                rw [List.length_append, s3', hnl]; omega
              · intro j u hj
                refine ⟨allScalar_iff.1 (allScalar_append holds hsc) _ (List.mem_of_getElem? hj), ?_⟩
                show ∃ v', arr'[L'.off + o + j]? = some v' ∧ _
                rw [a2, hnl']
                by_cases c3 : j < old.length
                · rw [List.getElem?_append_left c3, s2'] at hj
                  have hjl : j < len * i.size := by omega
                  rw [List.getElem?_take_of_lt hjl, List.getElem?_drop] at hj
                  rw [if_neg (by omega)]
                  obtain ⟨_, v', k1, k2⟩ := r5 _ _ hj
                  exact ⟨v', by rw [Nat.add_assoc]; exact k1, k2.mono hle⟩
                · rw [List.getElem?_append_right (by omega)] at hj
                  have hjn : j - old.length < q.2.length := by
                    rcases Nat.lt_or_ge (j - old.length) q.2.length with h | h
                    · exact h
                    · rw [List.getElem?_eq_none h] at hj; cases hj
                  rw [if_pos (by omega)]
                  obtain ⟨v', k1, k2⟩ := hnew.get hj
                  exact ⟨v', by rw [show L'.off + o + j - (L'.off + o + len * i.size + 0) = j - old.length by omega]; exact k1, k2.mono hle⟩
            obtain ⟨g1, g2⟩ := hH.move h0 hL (.row (old ++ q.2) elem) (L'.off + o) _ hrow
            refine ⟨_, _, _, hrun, g2, g1, .slice (Names.set_same _ _ _) (Nat.le_refl _) c2 (fun e => by cases e) (.inr ⟨?_, ?_⟩)⟩
            · rw [hAd'.1]; rfl
            · show L'.off + o + 0 + cap' * i.size ≤ L'.tot
              omega
          · obtain ⟨d1, d2⟩ := hH.del b
            exact grown (some a) len cap' old old' (st.del b) rfl (by omega) hroom hold holdr holds hol rfl d1 d2
  · rename_i l len cap ex own e
    rw [ifb_none] at h
    obtain ⟨he, h⟩ := h
    have he' : e = i.size := of_beq he
    subst he'
    have hs0 := hs
    cases hs with
    | vs hv hsl hl hlen hcap hex hAd hO =>
      rename_i l' a cap' blk off
      have hsub : sub 0 (len * i.size) l = some l := by
        show takeX (len * i.size) l = some l
        rw [takeX_some]; exact ⟨by omega, by rw [List.take_of_length_le (by omega)]⟩
      obtain ⟨old', hold, holdr, _⟩ := firstCells_sound (P := P) (size := i.size) (n := len) (cs := l) hH (x := .vs l len cap ex own i.size) (x' := .slice (some a) len cap')
        (by simp only [srcCells, ifb_none]; exact ⟨beq_t rfl, hsub⟩) hs0 (fun m hm => by injection hm with hm; omega)
      have hol : old'.length = len * i.size := by rw [holdr.length, hl]
      cases own with
      | none =>
        by_cases c0 : q.1 = 0
        · simp only [beq_t c0, ifb_true] at h
          injection h with h; injection h with h1 h2; subst h1; subst h2
          have hn0 : new' = [] := List.length_eq_zero_iff.1 (by rw [hnl', c0]; simp)
          have := append_fit (ty := ty) (w' := w) hA hA1 hX hX1 hu hi src (by omega) (fun a' ha => by rw [hn0]; rfl) (fun h => by cases h)
          rw [c0, Nat.add_zero] at this
          exact ⟨ρ, w, _, this, Goes.refl, hH, .vs hv hsl hl hlen hcap hex hAd hO⟩
        simp only [beq_f c0, ifb_false, ifb_none, Bool.and_eq_true] at h
        obtain ⟨hroom, ⟨hx, hcl⟩, h⟩ := h
        have hcl' : cap = len := of_beq hcl
        have hce := hex hx
        injection h with h; injection h with h1 h2; subst h1; subst h2
        exact grownVs (some a) len cap' l old' st rfl (by omega) hroom hold holdr hsl hol rfl hH Goes.refl
      | some b =>
        simp only [ifb_none, ob_some] at h
        obtain ⟨hroom, u, hsp, h⟩ := h
        injection h with h; injection h with h1 h2; subst h1; subst h2
        have h0 : st.heap.get b = some .spare := by
          unfold spareOf at hsp
          rw [ob_some] at hsp
          obtain ⟨o, k1, k2⟩ := hsp
          cases o <;> first | exact k1 | cases k2
        by_cases c2 : len + q.1 ≤ cap'
        · obtain ⟨rfl, hm, L, hL, hLb, hLo, hLt⟩ := hO b rfl
          subst hLb
          obtain ⟨L', hL', arr, e0, lo, hi0, r1, r2, r3, r4⟩ := hH.obj _ _ h0
          obtain rfl : L' = L := by rw [hL] at hL'; injection hL' with h; exact h.symm
          have hroom2 : off + (len + q.1) * i.size ≤ L'.tot := by
            have : (len + q.1) * i.size ≤ cap' * i.size := Nat.mul_le_mul_right _ c2
            omega
          rw [Nat.add_mul] at hroom2
          obtain ⟨arr', a1, a2, a3⟩ := storeCells_run (P := P) (o := off + len * i.size) new' 0 arr w r1 (by rw [hnl', r2]; omega) (by rw [r2]; exact r4)
            (fun v' hv' => by
              obtain ⟨j, hj, rfl⟩ := List.getElem_of_mem hv'
              have hj' : j < q.2.length := by rw [← hnew.length]; exact hj
              obtain ⟨u, hu', hr⟩ := hnew.get (List.getElem?_eq_getElem hj')
              rw [List.getElem?_eq_getElem hj] at hu'
              injection hu' with hu'
              exact hu' ▸ hr.oneCell (allScalar_iff.1 hsc _ (List.getElem_mem hj')))
          have hrun := append_fit (ty := ty) hA hA1 hX hX1 hu hi src c2 (fun a' ha => by
            injection ha with ha; subst ha; rw [addr_add]; exact a3) (fun h => by cases h)
          obtain ⟨g1, g2⟩ := hH.grow h0 hL new' (.cells arr' e0 (lo, hi0)) ⟨arr', e0, lo, hi0, rfl, by rw [a1, r2], by rw [hLo, hnl']; omega, r4, fun j v hj => by
              have hlt : j < new'.length := by
                rcases Nat.lt_or_ge j new'.length with h | h
                · exact h
                · rw [List.getElem?_eq_none h] at hj; cases hj
              rw [a2, if_pos (by omega), show L'.off + j - (off + len * i.size + 0) = j by omega]; exact hj,
            fun j v hlt hc => by
              rw [a2, if_neg (by omega)]
              simpa [World.cell?, r1] using hc⟩
          have hold2 : ∀ j v, l'[j]? = some v → ((ρ.set st.next ⟨L'.blk, L'.off + new'.length, L'.tot⟩).add L'.blk L'.off new').mem L'.blk (off + j) = some v := fun j v hj => g2.le.mem _ _ _ (hm j v hj)
          have hall : ∀ j v, (l' ++ new')[j]? = some v → ((ρ.set st.next ⟨L'.blk, L'.off + new'.length, L'.tot⟩).add L'.blk L'.off new').mem L'.blk (off + j) = some v := fun j v hj => by
            have hll : l'.length = len * i.size := by rw [hv.length, hl]
            by_cases c3 : j < l'.length
            · rw [List.getElem?_append_left c3] at hj; exact hold2 _ _ hj
            · rw [List.getElem?_append_right (by omega)] at hj
              have := Names.add_at (ρ.set st.next ⟨L'.blk, L'.off + new'.length, L'.tot⟩) L'.blk L'.off new' hj
              rwa [show L'.off + (j - l'.length) = off + j by omega] at this
          refine ⟨_, _, _, hrun, g2, g1, .vs (blk := L'.blk) (off := off) ((hv.append hnew).mono g2.le) (allScalar_append hsl hsc) (by rw [List.length_append, hl, hnl]; exact (Nat.add_mul _ _ _).symm) (Nat.le_refl _) c2 (fun e => by cases e) (.inr ⟨rfl, hall⟩) ?_⟩
          intro b' hb'
          injection hb' with hb'; subst hb'
          refine ⟨rfl, hall, _, Names.set_same _ _ _, rfl, ?_, hLt⟩
          show L'.off + new'.length = off + (len + q.1) * i.size
          rw [hLo, hnl', Nat.add_mul]; omega
        · obtain ⟨d1, d2⟩ := hH.del b
          exact grownVs (some a) len cap' l old' (st.del b) rfl (by omega) hroom hold holdr hsl hol rfl d1 d2
    | vsNil =>
      by_cases c0 : q.1 = 0
      · simp only [beq_t c0, ifb_true] at h
        injection h with h; injection h with h1 h2; subst h1; subst h2
        have hn0 : new' = [] := List.length_eq_zero_iff.1 (by rw [hnl', c0]; simp)
        have := append_fit (ty := ty) (w' := w) hA hA1 hX hX1 hu hi src (by rw [c0]; omega) (fun a ha => by cases ha) (fun _ => rfl)
        rw [c0] at this
        exact ⟨ρ, w, _, this, Goes.refl, hH, .vsNil⟩
      · simp only [beq_f c0, ifb_false, ifb_none, Bool.and_eq_true] at h
        obtain ⟨hroom, ⟨hx, hcl⟩, h⟩ := h
        injection h with h; injection h with h1 h2; subst h1; subst h2
        exact grownVs none 0 0 [] [] st rfl (by omega) hroom (fun m => rfl) .nil rfl (by simp) rfl hH Goes.refl
  · cases h

end Go.Det
