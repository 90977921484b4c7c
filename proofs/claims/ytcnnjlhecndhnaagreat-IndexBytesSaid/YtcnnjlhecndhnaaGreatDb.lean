/- Part of the proof of IndexBytes. -/
import Derived.Test.YtcnnjlhecndhnaaGreatDa
import Derived.Orders
import Derived.Laws.Sem
import Derived.Below
import Derived.RowKit3
import Derived.ChangeSame
import Derived.Carry
import Derived.OpenShut
import Derived.ChangeArms
set_option linter.unusedVariables false
set_option linter.unusedSimpArgs false
namespace Go.Det
variable {P : Program} {ρ : Names}
def Does (P : Program) (ρ : Names) (st : St) (w : World) (v : AV) (st' : St) (s : Sem Value) : Prop :=
 ∃ ρ' w' v', s.run P w = .ok v' w' ∧ Goes ρ st w ρ' st' w' ∧ HR ρ' st' w' ∧ VR ρ' v v'
def DoesU (P : Program) (ρ : Names) (st : St) (w : World) (st' : St) (s : Sem Unit) : Prop :=
 ∃ ρ' w', s.run P w = .ok () w' ∧ Goes ρ st w ρ' st' w' ∧ HR ρ' st' w'
theorem HR.del {st : St} {w : World} (h : HR ρ st w) (b : Nat) : HR ρ (st.del b) w ∧ Goes ρ st w ρ (st.del b) w := by
 have back : ∀ b' o, (st.del b).heap.get b' = some o → st.heap.get b' = some o := fun b' o hb => by
  change (st.heap.del b).get b' = some o at hb
  rw [Tr.get_del] at hb
  by_cases e : b' = b
  ·rw [if_pos e] at hb; cases hb
  ·rwa [if_neg e] at hb
 exact ⟨⟨h.lt, fun b' o hb => h.obj _ _ (back _ _ hb), fun b1 b2 o1 o2 L1 L2 h1 h2 => h.inj _ _ _ _ _ _ (back _ _ h1) (back _ _ h2), h.mem, (fun a i v hv b' o L hb => h.sep a i v hv b' o L (back _ _ hb)), h.glob⟩,
  ⟨Names.le_refl _, Nat.le_refl _, fun _ _ h => .inl h, Nat.le_refl _, fun b' o L hb hL _ => ⟨b', o, L, back _ _ hb, hL, rfl⟩, fun _ _ _ => rfl, rfl, rfl, rfl, Nat.le_refl _, fun _ _ _ h => .inl h⟩⟩
theorem HR.move {st : St} {w : World} (h : HR ρ st w) {b : Nat} {o0 : Ob} {L : Loc} (h0 : st.heap.get b = some o0) (hL : ρ b = some L) (o : Ob) (off : Nat) (x : Obj)
  (ho : OR (ρ.set st.next ⟨L.blk, off, L.tot⟩) ⟨L.blk, off, L.tot⟩ o (some x)) (hns : o0 ≠ .spare := by nofun) :
  HR (ρ.set st.next ⟨L.blk, off, L.tot⟩) ((st.del b).new o) { w with heap := w.heap.setIfInBounds L.blk x } ∧
   Goes ρ st w (ρ.set st.next ⟨L.blk, off, L.tot⟩) ((st.del b).new o) { w with heap := w.heap.setIfInBounds L.blk x } := by
 have hlt := (h.lt _ _ hL).2
 have hle := Names.set_le (⟨L.blk, off, L.tot⟩ : Loc) h.fresh
 have at_ : ∀ k, ({ w with heap := w.heap.setIfInBounds L.blk x } : World).heap[k]? = if L.blk = k then some x else w.heap[k]? := fun k => by
  show (w.heap.setIfInBounds L.blk x)[k]? = _
  rw [Array.getElem?_setIfInBounds]
  by_cases e : L.blk = k
  ·simp [e]; omega
  ·simp [e]
 have hsz : ({ w with heap := w.heap.setIfInBounds L.blk x } : World).heap.size = w.heap.size := by simp
 have gets : ∀ b' o', ((st.del b).new o).heap.get b' = some o' → (b' = st.next ∧ o' = o) ∨ (b' ≠ st.next ∧ b' ≠ b ∧ st.heap.get b' = some o') := fun b' o' hb => by
  change ((st.heap.del b).set st.next o).get b' = some o' at hb
  rw [Tr.get_set, Tr.get_del] at hb
  by_cases e : b' = st.next
  ·rw [if_pos e] at hb; injection hb with hb; exact .inl ⟨e, hb.symm⟩
  ·rw [if_neg e] at hb
   by_cases e2 : b' = b
   ·rw [if_pos e2] at hb; cases hb
   ·rw [if_neg e2] at hb; exact .inr ⟨e, e2, hb⟩
 have hne : ∀ a i v, ρ.mem a i = some v → ¬ L.blk = a := fun a i v hv he => hns (h.sep _ _ _ hv _ _ _ h0 hL he).1
 have hmem : ∀ a i v, (ρ.set st.next ⟨L.blk, off, L.tot⟩).mem a i = some v → ({ w with heap := w.heap.setIfInBounds L.blk x } : World).cell? ⟨a, i, none⟩ = some v := fun a i v hv => by
  rw [cell_of (w := w) (by rw [at_, if_neg (hne _ _ _ hv)])]; exact h.mem _ _ _ hv
 have hsep : ∀ a i v, (ρ.set st.next ⟨L.blk, off, L.tot⟩).mem a i = some v → ∀ b' o' K, ((st.del b).new o).heap.get b' = some o' → (ρ.set st.next ⟨L.blk, off, L.tot⟩) b' = some K → K.blk = a → o' = .spare ∧ i < K.off := by
  intro a i v hv b' o' K hg hK he
  rcases Names.set_inv hK with ⟨e1, e2⟩ | ⟨n1, k1⟩
  ·rw [e2] at he; exact absurd he (hne _ _ _ hv)
  ·rcases gets _ _ hg with ⟨e1, _⟩ | ⟨_, _, g1⟩
   ·exact absurd e1 n1
   ·exact h.sep _ _ _ hv _ _ _ g1 k1 he
 refine ⟨⟨?_, ?_, ?_, hmem, hsep, fun g l hg => let ⟨l', a, c⟩ := h.glob g l hg; ⟨l', a.mono hle, fun i v hv => hle.mem _ _ _ (c i v hv)⟩⟩, ⟨hle, Nat.le_succ _, ?_, by omega, ?_, ?_, rfl, rfl, rfl, Nat.le_refl _, fun _ _ _ h => .inl h⟩⟩
 ·intro b' K hK
  rw [hsz]
  rcases Names.set_inv hK with ⟨e1, e2⟩ | ⟨_, hK'⟩
  ·rw [e1, e2]; exact ⟨Nat.lt_succ_self _, hlt⟩
  ·have := h.lt _ _ hK'; exact ⟨Nat.lt_succ_of_lt this.1, this.2⟩
 ·intro b' o' hb
  rcases gets _ _ hb with ⟨rfl, rfl⟩ | ⟨n1, n2, hb'⟩
  ·exact ⟨_, Names.set_same _ _ _, by rw [at_, if_pos rfl]; exact ho⟩
  ·obtain ⟨K, hK, hO⟩ := h.obj _ _ hb'
   refine ⟨K, hle _ _ hK, ?_⟩
   rw [at_, if_neg (fun he => n2 (h.inj _ _ _ _ _ _ hb' h0 hK hL he.symm))]
   exact hO.mono hle
 ·intro b1 b2 o1 o2 K1 K2 h1 h2 k1 k2 he
  rcases gets _ _ h1 with ⟨e1, _⟩ | ⟨n1, m1, g1⟩
  ·rcases gets _ _ h2 with ⟨e2, _⟩ | ⟨n2, m2, g2⟩
   ·rw [e1, e2]
   ·subst e1
    rw [Names.set_same] at k1; injection k1 with k1; subst k1
    rcases Names.set_inv k2 with ⟨e3, _⟩ | ⟨_, k2'⟩
    ·exact absurd e3 n2
    ·exact absurd (h.inj _ _ _ _ _ _ g2 h0 k2' hL he.symm) m2
  ·rcases gets _ _ h2 with ⟨e2, _⟩ | ⟨n2, m2, g2⟩
   ·subst e2
    rw [Names.set_same] at k2; injection k2 with k2; subst k2
    rcases Names.set_inv k1 with ⟨e3, _⟩ | ⟨_, k1'⟩
    ·exact absurd e3 n1
    ·exact absurd (h.inj _ _ _ _ _ _ g1 h0 k1' hL he) m1
   ·rcases Names.set_inv k1 with ⟨e3, _⟩ | ⟨_, k1'⟩
    ·exact absurd e3 n1
    ·rcases Names.set_inv k2 with ⟨e3, _⟩ | ⟨_, k2'⟩
     ·exact absurd e3 n2
     ·exact h.inj _ _ _ _ _ _ g1 g2 k1' k2' he
 ·intro b' K hK
  rcases Names.set_inv hK with ⟨e1, e2⟩ | ⟨_, hK'⟩
  ·rw [e1]; exact .inr ⟨Nat.le_refl _, fun k hk => by rw [h.fresh] at hk; cases hk⟩
  ·exact .inl hK'
 ·intro b' o' K hb hK hlt'
  rcases gets _ _ hb with ⟨rfl, rfl⟩ | ⟨n1, n2, hb'⟩
  ·rw [Names.set_same] at hK; injection hK with hK; subst hK
   exact ⟨b, o0, L, h0, hL, rfl⟩
  ·rcases Names.set_inv hK with ⟨e3, _⟩ | ⟨_, hK'⟩
   ·exact absurd e3 n1
   ·exact ⟨b', o', K, hb', hK', rfl⟩
 ·intro k hk hn
  rw [at_, if_neg (hn b o0 L h0 hL)]
theorem sameKey0_eq {k e : AV} {k' e' : Value} (h : sameKey0 k e = some true) (hk : VR ρ k k') (he : VR ρ e e') : e' = k' ∧ ∀ n, Instr.sameBits n e' k' = true := by
 unfold sameKey0 at h
 split at h
 ·rw [ifb_none, eqKind_iff] at h
  obtain ⟨rfl, h⟩ := h
  injection h with h
  rw [eqInt_iff] at h; subst h
  cases hk; cases he; exact ⟨rfl, fun n => by cases n <;> simp [Instr.sameBits]⟩
 ·injection h with h
  rw [eqBytes_iff] at h
  cases hk; cases he
  rename_i a b
  have : b = a := by
   obtain ⟨⟨x⟩⟩ := a; obtain ⟨⟨y⟩⟩ := b
   simp at h; rw [h]
  subst this
  exact ⟨rfl, fun n => by cases n <;> simp [Instr.sameBits, beq_toListBytes]⟩
 ·injection h with h
  rw [eqBool_eq] at h
  cases hk; cases he
  simp at h; subst h
  exact ⟨rfl, fun n => by cases n <;> simp [Instr.sameBits]⟩
 ·cases h
theorem sameCells_eq : ∀ {a b : List AV} {a' b' : List Value}, sameCells a b = some true → VRs ρ a a' → VRs ρ b b' → b' = a' ∧ ∀ n, ((b'.zip a').all fun (x, y) => Instr.sameBits n x y) = true
 | [], [], _, _, _, .nil, .nil => ⟨rfl, fun n => rfl⟩
 | x :: a, y :: b, _, _, h, .cons hx ha, .cons hy hb => by
  simp only [sameCells, ob_some] at h
  obtain ⟨r, h1, h2⟩ := h
  cases r with
  | false => rw [ifb_false] at h2; cases h2
  | true =>
   rw [ifb_true] at h2
   obtain ⟨e1, e2⟩ := sameKey0_eq h1 hx hy
   obtain ⟨e3, e4⟩ := sameCells_eq h2 ha hb
   exact ⟨by rw [e1, e3], fun n => by simp only [List.zip_cons_cons, List.all_cons, e2 n, Bool.true_and]; exact e4 n⟩
 | [], _ :: _, _, _, h, _, _ => by simp [sameCells] at h
 | _ :: _, [], _, _, h, _, _ => by simp [sameCells] at h
theorem sameKey_eq {k e : AV} {k' e' : Value} (h : sameKey k e = some true) (hk : VR ρ k k') (he : VR ρ e e') : e' = k' ∧ Instr.sameBits 10000 e' k' = true := by
 unfold sameKey at h
 split at h
 ·cases hk with
  | agg hk =>
   cases he with
   | agg he =>
    obtain ⟨e1, e2⟩ := sameCells_eq h hk he
    subst e1
    exact ⟨rfl, by simp only [Instr.sameBits]; rw [Bool.and_eq_true]; exact ⟨by simp, e2 9999⟩⟩
 ·obtain ⟨e1, e2⟩ := sameKey0_eq h hk he
  exact ⟨e1, e2 _⟩
theorem ERs.length : ∀ {a : List AEntry} {b : List MapEntry}, ERs ρ a b → b.length = a.length
 | _, _, .nil => rfl
 | _, _, .cons _ _ t => by simp [ERs.length t]
theorem find_at {k : AV} {k' : Value} (hk : VR ρ k k') : ∀ {es : List AEntry} {es' : List MapEntry} (i : Nat) {j : Nat} {v : AV}, ERs ρ es es' → findA k es i = some (some (j, v)) →
  i ≤ j ∧ ∃ e, es'[j - i]? = some e ∧ e.key = k' ∧ Instr.sameBits 10000 e.key k' = true
 | _, _, i, j, v, .nil, h => by simp [findA] at h
 | _, _, i, j, v, .cons (k' := k3) (v' := v3) (n := n) hk2 hv2 t2, h => by
  simp only [findA, ob_some] at h
  obtain ⟨b, h1, h2⟩ := h
  cases b with
  | true =>
   rw [ifb_true] at h2; injection h2 with h2; injection h2 with h2; injection h2 with h2 _; subst h2
   have := sameKey_eq h1 hk hk2
   exact ⟨Nat.le_refl _, ⟨k3, v3, n⟩, by simp, this.1, this.2⟩
  | false =>
   rw [ifb_false] at h2
   obtain ⟨h3, e, h4, h5⟩ := find_at hk (i + 1) t2 h2
   exact ⟨by omega, e, by rw [show j - i = j - (i + 1) + 1 by omega]; simpa using h4, h5⟩
theorem setEntry_sound {v : AV} {v' : Value} (hv : VR ρ v v') : ∀ {es : List AEntry} {es' : List MapEntry} (j : Nat), ERs ρ es es' → ERs ρ (setEntry v j es) (es'.modify j fun e => { e with val := v' })
 | _, _, j, .nil => by cases j <;> exact .nil
 | _, _, 0, .cons hk _ t => by simpa [setEntry] using ERs.cons hk hv t
 | _, _, j + 1, .cons hk h t => by simpa [setEntry] using ERs.cons hk h (setEntry_sound hv j t)
theorem dropEntry_sound : ∀ {es : List AEntry} {es' : List MapEntry} (j : Nat), ERs ρ es es' → ERs ρ (dropEntry j es) (es'.eraseIdx j)
 | _, _, j, .nil => by cases j <;> exact .nil
 | _, _, 0, .cons hk _ t => by simpa [dropEntry] using t
 | _, _, j + 1, .cons hk h t => by simpa [dropEntry] using ERs.cons hk h (dropEntry_sound j t)
theorem ERs.append : ∀ {a : List AEntry} {a' : List MapEntry} {b : List AEntry} {b' : List MapEntry}, ERs ρ a a' → ERs ρ b b' → ERs ρ (a ++ b) (a' ++ b')
 | _, _, _, _, .nil, h => h
 | _, _, _, _, .cons hk hv t, h => .cons hk hv (t.append h)
theorem put_map {st : St} {w : World} (hH : HR ρ st w) {b : Nat} {q : List AEntry × Nat} (h : mapOf st b = some q) {L : Loc} (hL : ρ b = some L) {es : List AEntry} {es' : List MapEntry} (he : ERs ρ es es') (c : Nat) :
  HR ρ (st.put b (.map es c)) { w with heap := w.heap.setIfInBounds L.blk (.map ⟨es'⟩ c) } ∧ Goes ρ st w ρ (st.put b (.map es c)) { w with heap := w.heap.setIfInBounds L.blk (.map ⟨es'⟩ c) } :=
 hH.put (mapOf_some.1 h) hL (.map es c) _ ⟨es', rfl, he⟩ _ rfl
theorem map_at {st : St} {w : World} (hH : HR ρ st w) {b : Nat} {q : List AEntry × Nat} (h : mapOf st b = some q) {L : Loc} (hL : ρ b = some L) : ∃ es' : List MapEntry, w.heap[L.blk]? = some (.map ⟨es'⟩ q.2) ∧ ERs ρ q.1 es' := by
 obtain ⟨L', hL', es', h1, h2⟩ := hH.obj _ _ (mapOf_some.1 h)
 obtain rfl : L' = L := by rw [hL] at hL'; injection hL' with h; exact h.symm
 exact ⟨es', h1, h2⟩
theorem put_map_same {st : St} {w : World} (hH : HR ρ st w) {b : Nat} {q : List AEntry × Nat} (h : mapOf st b = some q) {L : Loc} (hL : ρ b = some L) {es' : List MapEntry} (h3 : w.heap[L.blk]? = some (.map ⟨es'⟩ q.2)) (he : ERs ρ q.1 es') :
  HR ρ (st.put b (.map q.1 q.2)) w ∧ Goes ρ st w ρ (st.put b (.map q.1 q.2)) w := by
 have e : { w with heap := w.heap.setIfInBounds L.blk (.map ⟨es'⟩ q.2) } = w := by
  have : w.heap.setIfInBounds L.blk (.map ⟨es'⟩ q.2) = w.heap := by
   apply Array.ext_getElem?
   intro k
   rw [Array.getElem?_setIfInBounds]
   by_cases c : L.blk = k
   ·subst c
    rw [if_pos rfl, h3]
    by_cases c2 : L.blk < w.heap.size
    ·simp [c2]
    ·rw [Array.getElem?_eq_none (by omega)] at h3; cases h3
   ·simp [c]
  rw [this]
 have := put_map hH h hL he q.2
 rwa [e] at this
theorem mapUpdate_sound {st st' : St} {w : World} (hH : HR ρ st w) {t : TypeId} {m k v : AV} {m' k' v' : Value} (h : mapUpdateA P st t m k v = some st') (hm : VR ρ m m') (hk : VR ρ k k') (hv : VR ρ v v') : DoesU P ρ st w st' (Instr.mapUpdate t m' k' v') := by
 unfold mapUpdateA at h
 split at h
 ·rename_i key elem b hu
  simp only [ifb_none, ob_some, om_some] at h
  obtain ⟨hkk, q, h1, r, h2, rfl⟩ := h
  cases hm with
  | map hL =>
   rename_i L
   obtain ⟨es', h3, h4⟩ := map_at hH h1 hL
   obtain ⟨r', k1, k2⟩ := findKey_sound (P := P) hk hkk h4 h2 w
   have hc := checkKey_sound (P := P) hk hkk false w
   have hget : (getObj L.blk).run P w = .ok (.map ⟨es'⟩ q.2) w := by simp [getObj, Sem.run, h3]
   have hset : ∀ o, (setObj L.blk o).run P w = .ok () { w with heap := w.heap.setIfInBounds L.blk o } := fun o => by simp [setObj, Sem.run, h3]
   rcases k2 with ⟨rfl, rfl⟩ | ⟨j, u, u', rfl, rfl, hu'⟩
   ·have he : ERs ρ (q.1 ++ [⟨k, v, q.2⟩]) (es' ++ [⟨k', v', q.2⟩]) := h4.append (.cons hk hv .nil)
    obtain ⟨a, b⟩ := put_map hH h1 hL he (q.2 + 1)
    refine ⟨ρ, _, ?_, b, a⟩
    unfold Instr.mapUpdate
    simp only [Sem.run_bind, run_underlying' hu, hget, Result.andThen_ok, hc, k1, hset]
    simp
   ·have he := setEntry_sound hv j h4
    obtain ⟨a, b⟩ := put_map hH h1 hL he q.2
    obtain ⟨_, e, e1, e2, e3⟩ := find_at hk 0 h4 h2
    simp only [Nat.sub_zero] at e1
    refine ⟨ρ, _, ?_, b, a⟩
    unfold Instr.mapUpdate
    simp only [Sem.run_bind, run_underlying' hu, hget, Result.andThen_ok, hc, k1]
    have hks : (Instr.keyThatStays ((((⟨es'⟩ : Array MapEntry)[j]?).map (·.key)).getD k') k').run P w = .ok k' w := by
     have : (⟨es'⟩ : Array MapEntry)[j]? = some e := by simpa using e1
     rw [this]
     simp only [Option.map_some, Option.getD_some]
     unfold Instr.keyThatStays
     rw [e3]; rfl
    rw [hks]
    simp only [Result.andThen_ok, hset]
    have : ((⟨es'⟩ : Array MapEntry).modify j fun e => { e with key := k', val := v' }) = ⟨es'.modify j fun e => { e with val := v' }⟩ := by
     apply Array.ext'
     rw [Array.toList_modify]
     apply List.ext_getElem?
     intro i
     rw [List.getElem?_modify, List.getElem?_modify]
     by_cases c : j = i
     ·subst c; rw [e1]; simp [← e2]
     ·simp [c]
    rw [this]
 ·cases h
theorem delete_sound {st st' : St} {w : World} (hH : HR ρ st w) {t ty : TypeId} {m k : AV} {m' k' : Value} (h : deleteA P st t m k = some st') (hm : VR ρ m m') (hk : VR ρ k k') {A : Array TypeId} {X : Array Value} (hA : A[0]? = some t) (hX : X[0]? = some m') (hX1 : X[1]? = some k') :
  Does P ρ st w undefA st' (Builtin.delete_ A ty X) := by
 unfold deleteA at h
 split at h
 ·rename_i key elem b hu
  simp only [ifb_none, ob_some, om_some] at h
  obtain ⟨hkk, q, h1, r, h2, rfl⟩ := h
  cases hm with
  | map hL =>
   rename_i L
   obtain ⟨es', h3, h4⟩ := map_at hH h1 hL
   obtain ⟨r', k1, k2⟩ := findKey_sound (P := P) hk hkk h4 h2 w
   have hc := fun b => checkKey_sound (P := P) hk hkk b w
   have hget : (getObj L.blk).run P w = .ok (.map ⟨es'⟩ q.2) w := by simp [getObj, Sem.run, h3]
   have hset : ∀ o, (setObj L.blk o).run P w = .ok () { w with heap := w.heap.setIfInBounds L.blk o } := fun o => by simp [setObj, Sem.run, h3]
   rcases k2 with ⟨rfl, rfl⟩ | ⟨j, u, u', rfl, rfl, hu'⟩
   ·obtain ⟨a, b⟩ := put_map hH h1 hL h4 q.2
    refine ⟨ρ, _, .tuple #[], ?_, b, a, .tuple .nil⟩
    unfold Builtin.delete_
    simp only [hA, hX, hX1, Sem.run_bind, run_underlying' hu, hget, Result.andThen_ok, hc, k1, hset, Sem.run_pure]
   ·have he := dropEntry_sound j h4
    obtain ⟨a, b⟩ := put_map hH h1 hL he q.2
    refine ⟨ρ, _, .tuple #[], ?_, b, a, .tuple .nil⟩
    unfold Builtin.delete_
    simp only [hA, hX, hX1, Sem.run_bind, run_underlying' hu, hget, Result.andThen_ok, hc, k1, hset, Sem.run_pure]
    have : (⟨es'⟩ : Array MapEntry).eraseIdxIfInBounds j = ⟨es'.eraseIdx j⟩ := by
     apply Array.ext'
     rw [Array.eraseIdxIfInBounds]
     split
     ·simp
     ·simp only []
      rw [List.eraseIdx_of_length_le (by rename_i hh; simpa using hh)]
    rw [this]
 ·rename_i key elem hu
  rw [ifb_none] at h
  obtain ⟨hkk, h⟩ := h
  injection h with h; subst h
  cases hm
  refine ⟨ρ, w, .tuple #[], ?_, Goes.refl, hH, .tuple .nil⟩
  unfold Builtin.delete_
  simp [hA, hX, hX1, run_underlying' hu, checkKey_sound (P := P) hk hkk]
 ·cases h
theorem findBorn_sound {n : Nat} : ∀ {es : List AEntry} {es' : List MapEntry} (i : Nat) {j : Nat}, ERs ρ es es' → findBorn n es i = some j → i ≤ j ∧ es'.findIdx? (fun e => (e.born : Int) == (n : Int)) = some (j - i)
 | _, _, i, j, .nil, h => by simp [findBorn] at h
 | _, _, i, j, .cons (n := m) hk hv t, h => by
  simp only [findBorn, ifb_eq] at h
  by_cases c : m = n
  ·rw [if_pos (beq_t c)] at h
   injection h with h; subst h
   subst c
   exact ⟨Nat.le_refl _, by simp [List.findIdx?_cons]⟩
  ·rw [if_neg (by rw [beq_f c]; simp)] at h
   obtain ⟨h1, h2⟩ := findBorn_sound (i + 1) t h
   refine ⟨by omega, ?_⟩
   have hne : ((m : Int) == (n : Int)) = false := by simp; omega
   rw [List.findIdx?_cons]
   simp only [hne, Bool.false_eq_true, if_false, h2, Option.map_some]
   congr 1; omega
theorem mapEntry_sound {st st' : St} {w : World} (hH : HR ρ st w) {t : TypeId} {m k v : AV} {m' k' : Value} (h : mapEntryA P st t m k = some (v, st')) (hm : VR ρ m m') (hk : VR ρ k k') : Does P ρ st w v st' (Instr.mapEntry t m' k') := by
 unfold mapEntryA at h
 split at h
 ·rename_i key elem b hu
  simp only [ifb_none, ob_some] at h
  obtain ⟨hkk, q, h1, r, h2, h⟩ := h
  cases hm with
  | map hL =>
   rename_i L
   obtain ⟨es', h3, h4⟩ := map_at hH h1 hL
   obtain ⟨r', k1, k2⟩ := findKey_sound (P := P) hk hkk h4 h2 w
   have hc := checkKey_sound (P := P) hk hkk false w
   have hget : (getObj L.blk).run P w = .ok (.map ⟨es'⟩ q.2) w := by simp [getObj, Sem.run, h3]
   have hset : ∀ o, (setObj L.blk o).run P w = .ok () { w with heap := w.heap.setIfInBounds L.blk o } := fun o => by simp [setObj, Sem.run, h3]
   rcases k2 with ⟨rfl, rfl⟩ | ⟨j, u, u', rfl, rfl, hu'⟩
   ·simp only [om_some] at h
    obtain ⟨z, hz, h⟩ := h
    injection h with e1 e2; subst e1; subst e2
    obtain ⟨z', hz', hzr⟩ := run_zeroValue' (ρ := ρ) hz w
    have he : ERs ρ (q.1 ++ [⟨k, z, q.2⟩]) (es' ++ [⟨k', z', q.2⟩]) := h4.append (.cons hk hzr .nil)
    obtain ⟨a, b⟩ := put_map hH h1 hL he (q.2 + 1)
    refine ⟨ρ, _, .tuple #[z', goInt q.2], ?_, b, a, .tuple (.cons hzr (.cons (.int _ _) .nil))⟩
    unfold Instr.mapEntry
    simp only [Sem.run_bind, run_underlying' hu, hget, Result.andThen_ok, hc, k1, hset, hz']
    simp
   ·simp only [om_some, nth_eq] at h
    obtain ⟨e0, he0, h⟩ := h
    injection h with e1 e2; subst e1; subst e2
    obtain ⟨_, e, e1, e2, e3⟩ := find_at hk 0 h4 h2
    simp only [Nat.sub_zero] at e1
    have h3' := h3
    have hborn : e.born = e0.born := by
     clear h2 k1 hset hget hc h3 h3'
     have key : ∀ {a : List AEntry} {b : List MapEntry}, ERs ρ a b → ∀ (j : Nat) (x : AEntry) (y : MapEntry), a[j]? = some x → b[j]? = some y → y.born = x.born := by
      intro a b hab
      induction hab with
      | nil => intro j x y hx; simp at hx
      | cons hk hv t ih =>
       intro j x y hx hy
       cases j with
       | zero => simp at hx hy; subst hx; subst hy; rfl
       | succ j => exact ih j x y (by simpa using hx) (by simpa using hy)
     exact key h4 _ _ _ he0 e1
    obtain ⟨a, b⟩ := put_map_same hH h1 hL h3' h4
    refine ⟨ρ, w, .tuple #[u', goInt e.born], ?_, b, a, ?_⟩
    rotate_left
    ·rw [hborn]; exact .tuple (.cons hu' (.cons (.int _ _) .nil))
    have hks : (Instr.keyThatStays ((((⟨es'⟩ : Array MapEntry)[j]?).map (·.key)).getD k') k').run P w = .ok k' w := by
     have : (⟨es'⟩ : Array MapEntry)[j]? = some e := by simpa using e1
     rw [this]
     simp only [Option.map_some, Option.getD_some]
     unfold Instr.keyThatStays
     rw [e3]; rfl
    have hmod : (⟨es'⟩ : Array MapEntry).modify j (fun e => { e with key := k' }) = ⟨es'⟩ := by
     apply Array.ext'
     rw [Array.toList_modify]
     apply List.ext_getElem?
     intro i
     rw [List.getElem?_modify]
     by_cases c : j = i
     ·subst c; rw [e1]; simp [← e2]
     ·simp [c]
    have hsame : w.heap.setIfInBounds L.blk (.map ⟨es'⟩ q.2) = w.heap := by
     apply Array.ext_getElem?
     intro i
     rw [Array.getElem?_setIfInBounds]
     by_cases c : L.blk = i
     ·subst c
      rw [if_pos rfl, h3]
      by_cases c2 : L.blk < w.heap.size
      ·simp [c2]
      ·rw [Array.getElem?_eq_none (by omega)] at h3; cases h3
     ·simp [c]
    have hbe : (((⟨es'⟩ : Array MapEntry)[j]?).map (fun x => (x.born : Int))).getD 0 = (e.born : Int) := by
     have : (⟨es'⟩ : Array MapEntry)[j]? = some e := by simpa using e1
     rw [this]; rfl
    unfold Instr.mapEntry
    simp only [Sem.run_bind, run_underlying' hu, hget, Result.andThen_ok, hc, k1]
    rw [hks]
    simp only [Result.andThen_ok, hset, hmod, hsame, Sem.run_pure, hbe]
 ·cases h
theorem entryStore_sound {st st' : St} {w : World} (hH : HR ρ st w) {t : TypeId} {m s v : AV} {m' s' v' : Value} (h : entryStoreA st m s v = some st') (hm : VR ρ m m') (hs : VR ρ s s') (hv : VR ρ v v') : DoesU P ρ st w st' (Instr.entryStore t m' s' v') := by
 unfold entryStoreA at h
 split at h
 ·rename_i b k n
  simp only [ifb_none, ob_some, om_some] at h
  obtain ⟨hn, q, h1, i, h2, rfl⟩ := h
  cases hm with
  | map hL =>
   rename_i L
   cases hs
   obtain ⟨es', h3, h4⟩ := map_at hH h1 hL
   obtain ⟨_, k2⟩ := findBorn_sound 0 h4 h2
   have he := setEntry_sound hv i h4
   obtain ⟨a, b'⟩ := put_map hH h1 hL he q.2
   have hget : (getObj L.blk).run P w = .ok (.map ⟨es'⟩ q.2) w := by simp [getObj, Sem.run, h3]
   have hset : ∀ o, (setObj L.blk o).run P w = .ok () { w with heap := w.heap.setIfInBounds L.blk o } := fun o => by simp [setObj, Sem.run, h3]
   refine ⟨ρ, _, ?_, b', a⟩
   have hw : IntKind.i64.wrap (n : Int) = n := wrap_small n (by have := of_ble hn; omega)
   unfold Instr.entryStore
   simp only [Sem.run_bind, hget, Result.andThen_ok, asInt, asIntOf, Sem.run_pure, Int.ofNat_eq_natCast, hw]
   have : (⟨es'⟩ : Array MapEntry).findIdx? (fun e => (e.born : Int) == (n : Int)) = some i := by
    rw [List.findIdx?_toArray, k2]; simp
   rw [this]
   simp only [hset]
   have hm : (⟨es'⟩ : Array MapEntry).modify i (fun e => { e with val := v' }) = ⟨es'.modify i fun e => { e with val := v' }⟩ := by
    apply Array.ext'; rw [Array.toList_modify]
   rw [hm]
 ·cases h
theorem str_cells : ∀ (l : List UInt8), VRs ρ (l.map fun b => .int .u8 (.ofNat b.toNat)) (l.map fun b => .int .u8 (b.toNat : Int))
 | [] => .nil
 | b :: l => .cons (.int _ _) (str_cells l)
theorem lenOf_sound {x : AV} {x' : Value} {n : Nat} (h : lenA x = some n) (hx : VR ρ x x') (w : World) : (Builtin.lenOf x').run P w = .ok n w := by
 unfold lenA at h
 split at h <;> first | (cases h; done) | (injection h with h; subst h; cases hx <;> rfl)
theorem firstCells_sound {st : St} {w : World} (hH : HR ρ st w) {size n : Nat} {x : AV} {x' : Value} {cs : List AV} (h : srcCells st size n x = some cs) (hx : VR ρ x x') (hn : ∀ m, lenA x = some m → n ≤ m) :
  ∃ cs' : List Value, (∀ m : Nat, (Builtin.firstCells size n x').run P { w with drawn := m } = .ok ⟨cs'⟩ { w with drawn := m }) ∧ VRs ρ cs cs' ∧ cs.length = n * size := by
 unfold srcCells at h
 split at h
 ·rename_i b o len cap ex e
  simp only [ifb_none, ob_some] at h
  obtain ⟨h1, r, h2, h3⟩ := h
  have he : e = size := of_beq h1
  subst he
  have hnl := hn len rfl
  cases hx with
  | slice hL hlen hcap hex hA =>
   rename_i L a cap'
   by_cases c : n * e = 0
   ·have h3' : sub o 0 r.1 = some cs := by rw [← c]; exact h3
    obtain ⟨_, _, h5⟩ := sub_some h3'
    obtain rfl : cs = [] := List.length_eq_zero_iff.1 h5
    refine ⟨[], fun m => ?_, .nil, c.symm⟩
    simp [Builtin.firstCells, c, loadCells, loadCellsFrom]
   ·have hne : n ≠ 0 := fun e0 => c (by rw [e0]; simp)
    rcases hA with hA | ⟨rfl, _⟩
    ·omega
    ·obtain ⟨L', hL', hO⟩ := hH.obj _ _ (rowOf_some.1 h2)
     obtain rfl : L' = L := by rw [hL] at hL'; injection hL' with h; exact h.symm
     obtain ⟨l', k1, k2⟩ := loadCells_all (P := P) hO h3
     exact ⟨l', fun m => by simp only [Builtin.firstCells]; exact k1 m, k2, (sub_some h3).2.2⟩
 ·injection h with h; subst h
  cases hx
  have := hn 0 rfl
  exact ⟨[], fun m => rfl, .nil, by rw [show n = 0 by omega]; simp⟩
 ·rename_i s
  rw [ifb_none, om_some] at h
  obtain ⟨hs1, l, h1, rfl⟩ := h
  have hs1' : size = 1 := of_beq hs1
  rw [takeX_some] at h1
  obtain ⟨h1, rfl⟩ := h1
  cases hx
  refine ⟨(s.data.toList.take n).map fun b => .int .u8 (b.toNat : Int), fun m => ?_, str_cells _, by
   have h9 : n ≤ s.size := by simpa using h1
   rw [hs1']; simp; omega⟩
  simp only [Builtin.firstCells, Sem.run_pure]
  congr 2
  apply Array.ext'
  simp [ByteArray.extract, ByteArray.copySlice]
 ·rename_i l n0 cap ex own e
  rw [ifb_none] at h
  obtain ⟨h1, h3⟩ := h
  have he : e = size := of_beq h1
  subst he
  have hnl := hn n0 rfl
  cases hx with
  | vs hv hsc hl hlen hcap hex hA hO =>
   rename_i l' a cap' blk off
   by_cases c : n * e = 0
   ·have h3' : sub 0 0 l = some cs := by have h4 := h3; rw [show Nat.mul n e = 0 from c] at h4; exact h4
    obtain ⟨_, _, h5⟩ := sub_some h3'
    obtain rfl : cs = [] := List.length_eq_zero_iff.1 h5
    refine ⟨[], fun m => ?_, .nil, c.symm⟩
    simp [Builtin.firstCells, c, loadCells, loadCellsFrom]
   ·have hne : n ≠ 0 := fun e0 => c (by rw [e0]; simp)
    rcases hA with hA | ⟨rfl, hm⟩
    ·omega
    ·obtain ⟨l1, k1, k2⟩ := loadCells_at (P := P) (o := 0) (n := n * e) (mem_at hH hv hm) h3
     exact ⟨l1, fun m => by simp only [Builtin.firstCells]; have := k1 m; rw [Nat.add_zero] at this; exact this, k2, (sub_some h3).2.2⟩
  | vsNil =>
   obtain rfl : n = 0 := by omega
   have h3' : sub 0 0 ([] : List AV) = some cs := by have h4 := h3; rw [show Nat.mul 0 e = 0 from Nat.zero_mul _] at h4; exact h4
   obtain ⟨_, _, h5⟩ := sub_some h3'
   obtain rfl : cs = [] := List.length_eq_zero_iff.1 h5
   exact ⟨[], fun m => rfl, .nil, by simp⟩
 ·cases h
inductive Src (P : Program) (w : World) (elem size bytes : Nat) : Option TypeId → Value → Nat → List Value → Prop where
 | plain {xT : Option TypeId} {x : Value} {n : Nat} {new : List Value} (h : xT = none ∨ ∃ t d, xT = some t ∧ P.underlying t = some d ∧ ∀ k, d ≠ .int k) (h1 : (Builtin.lenOf x).run P w = .ok n w)
   (h2 : ∀ m, (Builtin.firstCells size n x).run P { w with drawn := m } = .ok ⟨new⟩ { w with drawn := m }) : Src P w elem size bytes xT x n new
 | zeros {t : TypeId} {k k' : IntKind} {n : Nat} {z : Value} (h : P.underlying t = some (.int k)) (h1 : IntKind.i64.wrap (n : Int) = n) (h2 : ¬ ((281474976710656 : Int) < (n : Int) * (bytes : Int)))
   (h3 : ∀ m, (zeroValue elem).run P { w with drawn := m } = .ok z { w with drawn := m }) (h4 : z.cells.size = size) : Src P w elem size bytes (some t) (.int k' n) n (repl n z.cells.toList)
theorem zeroCells_eq (z : Array Value) (n : Nat) : (Builtin.zeroCells z n).toList = repl n z.toList := range_repl z n _ rfl
theorem append_fit {w : World} {A : Array TypeId} {X : Array Value} {sT ty : TypeId} {xT : Option TypeId} {x : Value} {base : Option Addr} {sLen sCap n elem : Nat} {i : TypeInfo} {new : List Value}
  (hA : A[0]? = some sT) (hA1 : A[1]? = xT) (hX : X[0]? = some (.slice base sLen sCap)) (hX1 : X[1]? = some x) (hu : P.underlying sT = some (.slice elem)) (hi : P.info? elem = some i)
  (hs : Src P w elem i.size i.bytes xT x n new) (hfit : sLen + n ≤ sCap) {w' : World} (hst : ∀ a, base = some a → (storeCells (a.add (sLen * i.size)) new).run P w = .ok () w') (hno : base = none → w' = w) :
  (Builtin.append_ A ty X).run P w = .ok (.slice base (sLen + n) sCap) w' := by
 have hsz := run_sizeOf' (szT_some.2 ⟨i, hi, rfl⟩ : szT P elem = some i.size)
 cases hs with
 | plain h h1 h2 =>
  have h2' := h2 w.drawn
  unfold Builtin.append_
  rcases h with rfl | ⟨t, d, rfl, hd, hk⟩
  ·cases base with
   | none => simp [hA, hA1, hX, hX1, run_underlying' hu, hsz, h1, hfit, h2', hno rfl]
   | some a => simp [hA, hA1, hX, hX1, run_underlying' hu, hsz, h1, hfit, h2', hst a rfl]
  ·have hd' : (match d with | .int _ => true | _ => false) = false := by cases d <;> first | rfl | exact absurd rfl (hk _)
   cases base with
   | none => simp [hA, hA1, hX, hX1, run_underlying' hu, run_underlying' hd, hd', hsz, h1, hfit, h2', hno rfl]
   | some a => simp [hA, hA1, hX, hX1, run_underlying' hu, run_underlying' hd, hd', hsz, h1, hfit, h2', hst a rfl]
 | zeros h h1 h2 h3 h4 =>
  rename_i t k k' z
  have h3' := h3 w.drawn
  have hneg : ¬ ((n : Int) < 0) := by omega
  unfold Builtin.append_
  by_cases c : n * i.size = 0
  ·have he : repl n z.cells.toList = [] := List.length_eq_zero_iff.1 (by rw [repl_length]; simpa [h4] using c)
   rw [he] at hst
   cases base with
   | none => simp [hA, hA1, hX, hX1, run_underlying' hu, run_underlying' h, hsz, asInt, asIntOf, h1, hneg, run_typeInfo' hi, h2, hfit, c, hno rfl]
   | some a => simp [hA, hA1, hX, hX1, run_underlying' hu, run_underlying' h, hsz, asInt, asIntOf, h1, hneg, run_typeInfo' hi, h2, hfit, c, hst a rfl]
  ·cases base with
   | none => simp [hA, hA1, hX, hX1, run_underlying' hu, run_underlying' h, hsz, asInt, asIntOf, h1, hneg, run_typeInfo' hi, h2, hfit, c, h3', zeroCells_eq, hno rfl]
   | some a => simp [hA, hA1, hX, hX1, run_underlying' hu, run_underlying' h, hsz, asInt, asIntOf, h1, hneg, run_typeInfo' hi, h2, hfit, c, h3', zeroCells_eq, hst a rfl]
theorem cap_le {need c : Nat} (h : c < need) : Builtin.nextslicecap need c ≤ 3 * need + 2000 := by
 unfold Builtin.nextslicecap
 split
 ·omega
 ·split
  ·omega
  ·simp only [Builtin.growBy]
   (repeat' split) <;> omega
set_option maxRecDepth 100000 in
theorem grow_room {need b c : Nat} (h : c ≤ 3 * need + 2000) : c * b ≤ 2 * ((2 * need + 1024) * (b + 1)) := by
 have h2 : c ≤ 2 * (2 * need + 1024) := by omega
 have h3 : c * b ≤ (2 * (2 * need + 1024)) * (b + 1) := Nat.mul_le_mul h2 (Nat.le_succ b)
 rw [Nat.mul_assoc] at h3
 exact h3
theorem le_prod (need b : Nat) : need ≤ (2 * need + 1024) * (b + 1) := by
 have h1 : (2 * need + 1024) * 1 ≤ (2 * need + 1024) * (b + 1) := Nat.mul_le_mul_left _ (by omega)
 omega
set_option maxRecDepth 100000 in
theorem append_grow {w : World} {A : Array TypeId} {X : Array Value} {sT ty : TypeId} {xT : Option TypeId} {x : Value} {base : Option Addr} {sLen sCap n elem : Nat} {i : TypeInfo} {new old : List Value} {z : Value}
    (hA : A[0]? = some sT) (hA1 : A[1]? = xT) (hX : X[0]? = some (.slice base sLen sCap)) (hX1 : X[1]? = some x) (hu : P.underlying sT = some (.slice elem)) (hi : P.info? elem = some i)
    (hs : Src P w elem i.size i.bytes xT x n new) (hfit : sCap < sLen + n) (hroom : roomy (sLen + n) i.bytes = true)
    (hold : ∀ m, (Builtin.firstCells i.size sLen (.slice base sLen sCap)).run P { w with drawn := m } = .ok ⟨old⟩ { w with drawn := m }) (hz : ∀ m, (zeroValue elem).run P { w with drawn := m } = .ok z { w with drawn := m }) :
    ∃ cap', sLen + n ≤ cap' ∧ (Builtin.append_ A ty X).run P w = .ok (.slice (some ⟨w.heap.size, 0, none⟩) (sLen + n) cap')
      (worldNew { w with drawn := w.drawn + 1 } (.cells ⟨old ++ new ++ repl (cap' - (sLen + n)) z.cells.toList⟩ elem)) := by
  have hsz := run_sizeOf' (szT_some.2 ⟨i, hi, rfl⟩ : szT P elem = some i.size)
  have hr := roomy_some hroom
  have hc := cap_le hfit
  have hneed : sLen + n ≤ 70368744177664 := Nat.le_trans (le_prod (sLen + n) i.bytes) hr
  have hbytes : Builtin.nextslicecap (sLen + n) sCap * i.bytes ≤ 140737488355328 := Nat.le_trans (grow_room hc) (Nat.mul_le_mul_left 2 hr)
  have hb1 : ¬ (((sLen + n : Nat) : Int) > IntKind.i64.max) := by
    have : IntKind.i64.max = 9223372036854775807 := by decide
    rw [this]
    generalize sLen + n = y at hneed
    omega
  have hb2 : ¬ (Builtin.nextslicecap (sLen + n) sCap * i.bytes > 2 ^ 48) := fun h => by
    have e : (2 : Nat) ^ 48 = 281474976710656 := by decide
    rw [e] at h
    exact absurd (Nat.lt_of_lt_of_le h hbytes) (by decide)
  have hnf : ¬ (sLen + n ≤ sCap) := by omega
  refine ⟨(Question.appendCap (sLen + n) sCap elem).cut (w.tape w.drawn (.appendCap (sLen + n) sCap elem)), Nat.le_add_right _ _, ?_⟩
  have hq : (Question.appendCap (sLen + n) sCap elem).forced = false := rfl
  have hz0 := hz w.drawn
  have hz1 := hz (w.drawn + 1)
  have ho1 := hold (w.drawn + 1)
  have hrest : ∀ m : Nat, (Builtin.zeroCells z.cells m) = ⟨repl m z.cells.toList⟩ := fun m => Array.ext' (zeroCells_eq _ _)
  cases hs with
  | plain h h1 h2 =>
    have h2' := h2 w.drawn
    have h2'' := h2 (w.drawn + 1)
    unfold Builtin.append_
    have tail := fun (a : Array Value) => show ((newRow elem a).run P { w with drawn := w.drawn + 1 }) = .ok ⟨w.heap.size, 0, none⟩ (worldNew { w with drawn := w.drawn + 1 } (.cells a elem)) from rfl
    rcases h with rfl | ⟨t, d, rfl, hd, hk⟩
    · simp only [hA, hA1, hX, hX1, Sem.run_bind, run_underlying' hu, Result.andThen_ok, hsz, Sem.run_pure, h1, Bool.false_eq_true, if_false, hnf, run_typeInfo' hi]
      rw [if_neg (fun h => hb1 h.1)]
      simp only [Sem.run_bind, run_typeInfo' hi, Result.andThen_ok, if_neg hb2, run_choose, hq, Bool.false_eq_true, if_false, run_askRoom]
      rw [ho1]
      simp only [Result.andThen_ok, Bool.not_false, if_true, h2'', hz1, hrest, tail, Sem.run_pure]
      simp
    · have hd' : (match d with | .int _ => true | _ => false) = false := by cases d <;> first | rfl | exact absurd rfl (hk _)
      simp only [hA, hA1, hX, hX1, Sem.run_bind, run_underlying' hu, run_underlying' hd, hd', Result.andThen_ok, hsz, Sem.run_pure, h1, Bool.false_eq_true, if_false, hnf, run_typeInfo' hi]
      rw [if_neg (fun h => hb1 h.1)]
      simp only [Sem.run_bind, run_typeInfo' hi, Result.andThen_ok, if_neg hb2, run_choose, hq, Bool.false_eq_true, if_false, run_askRoom]
      rw [ho1]
      simp only [Result.andThen_ok, Bool.not_false, if_true, h2'', hz1, hrest, tail, Sem.run_pure]
      simp
  | zeros h h1 h2 h3 h4 =>
    rename_i t k k' z2
    have h3' := h3 (w.drawn + 1)
    have hzz : z2 = z := by rw [hz1] at h3'; injection h3' with h3' _; exact h3'.symm
    subst hzz
    have hneg : ¬ ((n : Int) < 0) := by omega
    have tail := fun (a : Array Value) => show ((newRow elem a).run P { w with drawn := w.drawn + 1 }) = .ok ⟨w.heap.size, 0, none⟩ (worldNew { w with drawn := w.drawn + 1 } (.cells a elem)) from rfl
    have happ : (if (!true) = true then Builtin.firstCells i.size n (.int k' n)
            else
              if n * i.size = 0 then pure #[]
              else do
                let __do_lift ← zeroValue elem
                pure (Builtin.zeroCells __do_lift.cells n) : Sem (Array Value)).run P { w with drawn := w.drawn + 1 } = .ok ⟨repl n z2.cells.toList⟩ { w with drawn := w.drawn + 1 } := by
      simp only [Bool.not_true, Bool.false_eq_true, if_false]
      by_cases c : n * i.size = 0
      · have he : repl n z2.cells.toList = [] := List.length_eq_zero_iff.1 (by rw [repl_length]; simpa [h4] using c)
        rw [if_pos c, he]; rfl
      · rw [if_neg c]
        simp only [Sem.run_bind, hz1, Result.andThen_ok, hrest, Sem.run_pure]
    have h2b : ¬ ((n : Int) * (i.bytes : Int) > 2 ^ 48) := fun h => h2 (by rw [show (2 : Int) ^ 48 = 281474976710656 from by decide] at h; exact h)
    unfold Builtin.append_
    simp only [hA, hA1, hX, hX1, Sem.run_bind, run_underlying' hu, run_underlying' h, Result.andThen_ok, hsz, Sem.run_pure, asInt, asIntOf, h1, if_true, if_neg hneg, if_neg h2b, run_typeInfo' hi, Int.toNat_natCast, hnf, if_false]
    rw [if_neg (fun h => hb1 h.1)]
    simp only [Sem.run_bind, run_typeInfo' hi, Result.andThen_ok, if_neg hb2, run_choose, hq, Bool.false_eq_true, if_false, run_askRoom]
    rw [ho1]
    simp only [Result.andThen_ok]
    erw [happ]
    simp only [Result.andThen_ok, hz1, hrest, tail, Sem.run_pure]
    simp
theorem zero_any {elem : TypeId} {z : AV} (h : zeroT P elem = some z) (ρ : Names) : ∃ z', (∀ w : World, (zeroValue elem).run P w = .ok z' w) ∧ VR ρ z z' := by
 simp only [zeroT, ob_some] at h
 obtain ⟨i, h1, z', h2, h3⟩ := h
 exact ⟨z', fun w => by simp [zeroValue, run_typeInfo' h1, h2], ofVal_sound ρ _ _ _ h3⟩
set_option maxRecDepth 100000 in
theorem src_sound {st : St} {w : World} (hH : HR ρ st w) {elem : TypeId} {i : TypeInfo} {z : AV} (hz : zeroT P elem = some z) (hzl : z.cells.length = i.size) {xT : Option TypeId} {zs : Bool} (hxT : zerosT P xT = some zs) {x : AV} {x' : Value} (hx : VR ρ x x')
  {q : Nat × List AV} (h : newCells st i z zs x = some q) : ∃ new' : List Value, Src P w elem i.size i.bytes xT x' q.1 new' ∧ VRs ρ q.2 new' ∧ q.2.length = q.1 * i.size := by
 unfold newCells at h
 cases zs with
 | true =>
  rw [ifb_true] at h
  split at h
  ·rename_i k n
   rw [ifb_none, Bool.and_eq_true] at h
   obtain ⟨⟨h1, h2⟩, h3⟩ := h
   injection h3 with h3; subst h3
   cases hx
   have e1 := of_ble h1
   have e2 := roomy_some h2
   obtain ⟨z', k1, k2⟩ := zero_any hz ρ
   have hzc := k2.cells
   have hz2 : z'.cells.size = i.size := by rw [← hzl, ← hzc.length]; simp
   unfold zerosT at hxT
   cases xT with
   | none => cases hxT
   | some t =>
    simp only at hxT
    cases hu : P.underlying t with
    | none => rw [hu] at hxT; cases hxT
    | some d =>
     rw [hu] at hxT
     cases d <;> simp only [Option.some.injEq, Bool.false_eq_true, reduceCtorEq] at hxT
     rename_i kk
     refine ⟨repl n z'.cells.toList, .zeros hu (wrap_small n (by omega)) ?_ (fun m => k1 _) hz2, hzc.repl n, by rw [repl_length, hzl]⟩
     intro hlt
     have h5 : n * i.bytes ≤ (2 * n + 1024) * (i.bytes + 1) := Nat.mul_le_mul (by omega) (Nat.le_succ _)
     have h6 : n * i.bytes ≤ 70368744177664 := Nat.le_trans h5 e2
     have h7 : ((n * i.bytes : Nat) : Int) ≤ ((70368744177664 : Nat) : Int) := Int.ofNat_le.2 h6
     rw [Int.natCast_mul] at h7
     generalize (n : Int) * (i.bytes : Int) = y at *
     omega
  ·cases h
 | false =>
  rw [ifb_false] at h
  simp only [ob_some, om_some] at h
  obtain ⟨n, h1, cs, h2, rfl⟩ := h
  obtain ⟨cs', hall, k2, k3⟩ := firstCells_sound (P := P) hH h2 hx (fun k hk => by rw [h1] at hk; injection hk with hk; omega)
  refine ⟨cs', .plain ?_ (lenOf_sound h1 hx w) hall, k2, k3⟩
  ·unfold zerosT at hxT
   cases xT with
   | none => exact .inl rfl
   | some t =>
    simp only at hxT
    cases hu : P.underlying t with
    | none => rw [hu] at hxT; cases hxT
    | some d =>
     rw [hu] at hxT
     refine .inr ⟨t, d, rfl, hu, fun k e => ?_⟩
     subst e
     simp at hxT
theorem rowAt_more {cs : List AV} {more : List Value} {e : TypeId} {cs' : List Value} (h : VRs ρ cs cs') (hs : allScalar cs = true) (b : Nat) :
  RowAt ρ ⟨b, 0, cs'.length + more.length⟩ cs (some (.cells ⟨cs' ++ more⟩ e)) := by
 refine ⟨⟨cs' ++ more⟩, e, 0, 0, rfl, by simp, by rw [← h.length]; simp, fun i _ hh => by omega, fun i v hv => ⟨allScalar_iff.1 hs _ (List.mem_of_getElem? hv), ?_⟩⟩
 obtain ⟨v', h1, h2⟩ := h.get hv
 refine ⟨v', ?_, h2⟩
 have hi : i < cs'.length := by
  rcases Nat.lt_or_ge i cs'.length with h | h
  ·exact h
  ·rw [List.getElem?_eq_none h] at h1; cases h1
 simp [List.getElem?_append_left hi, h1]
set_option maxRecDepth 100000 in
theorem append_sound {st st' : St} {w : World} (hH : HR ρ st w) {sT ty : TypeId} {xT : Option TypeId} {s x v : AV} {s' x' : Value} (h : appendA P st sT xT s x = some (v, st')) (hs : VR ρ s s') (hx : VR ρ x x')
  {A : Array TypeId} {X : Array Value} (hA : A[0]? = some sT) (hA1 : A[1]? = xT) (hX : X[0]? = some s') (hX1 : X[1]? = some x') : Does P ρ st w v st' (Builtin.append_ A ty X) := by
 unfold appendA at h
 split at h
 rotate_left
 ·cases h
 rename_i elem hu
 simp only [ob_some, ifb_none, Bool.and_eq_true] at h
 obtain ⟨i, hi, z, hz, zs, hzs, q, hq, ⟨hsc, hzl⟩, h⟩ := h
 have hzl' : z.cells.length = i.size := of_beq hzl
 obtain ⟨new', src, hnew, hnl⟩ := src_sound hH hz hzl' hzs hx hq
 have hnl' : new'.length = q.1 * i.size := by rw [hnew.length, hnl]
 obtain ⟨z', hz', hzr⟩ := zero_any hz ρ
 have hz2 : z'.cells.size = i.size := by rw [← hzl', ← hzr.cells.length]; simp
 have hz3 : z'.cells.toList.length = i.size := by simpa using hz2
 -- the end of every way on which a new row is made
 have grown : ∀ (base : Option Addr) (sLen sCap : Nat) (old : List AV) (old' : List Value) (st1 : St), s' = .slice base sLen sCap → sCap < sLen + q.1 → roomy (sLen + q.1) i.bytes = true →
   (∀ m, (Builtin.firstCells i.size sLen (.slice base sLen sCap)).run P { w with drawn := m } = .ok ⟨old'⟩ { w with drawn := m }) → VRs ρ old old' → allScalar old = true → old'.length = sLen * i.size → st1.next = st.next → HR ρ st1 w → Goes ρ st w ρ st1 w →
   Does P ρ st w (.slice st.next 0 (sLen + q.1) (sLen + q.1) false i.size) (st1.new (.row (old ++ q.2) elem)) (Builtin.append_ A ty X) := by
  intro base sLen sCap old old' st1 hsv hfit hroom hold holdr holds hol hnx hH1 hG1
  subst hsv
  obtain ⟨cap', hc, hrun⟩ := append_grow (ty := ty) hA hA1 hX hX1 hu hi src hfit hroom hold (fun m => hz' _)
  have hfresh1 : ρ st1.next = none := hH1.fresh
  let L : Loc := ⟨w.heap.size, 0, (old' ++ new').length + (repl (cap' - (sLen + q.1)) z'.cells.toList).length⟩
  have hle := Names.set_le L hfresh1
  have hrow : RowAt (ρ.set st1.next L) L (old ++ q.2) (some (.cells ⟨(old' ++ new') ++ repl (cap' - (sLen + q.1)) z'.cells.toList⟩ elem)) :=
   rowAt_more ((holdr.append hnew).mono hle) (allScalar_append holds hsc) _
  obtain ⟨a, b⟩ := (hH1.drew (w.drawn + 1)).new (.row (old ++ q.2) elem) L (.cells ⟨(old' ++ new') ++ repl (cap' - (sLen + q.1)) z'.cells.toList⟩ elem) rfl hrow
  refine ⟨_, _, _, hrun, (hG1.drew (w.drawn + 1) (Nat.le_succ _)).trans b, a, ?_⟩
  rw [← hnx]
  refine .slice (Names.set_same _ _ _) (Nat.le_refl _) hc (fun e => by cases e) (.inr ⟨rfl, ?_⟩)
  show 0 + 0 + cap' * i.size ≤ (old' ++ new').length + (repl (cap' - (sLen + q.1)) z'.cells.toList).length
  rw [repl_length, hz3, List.length_append, hol, hnl', ← Nat.add_mul, ← Nat.add_mul]
  have : sLen + q.1 + (cap' - (sLen + q.1)) = cap' := by omega
  rw [this]; omega
 have grownVs : ∀ (base : Option Addr) (sLen sCap : Nat) (old : List AV) (old' : List Value) (st1 : St), s' = .slice base sLen sCap → sCap < sLen + q.1 → roomy (sLen + q.1) i.bytes = true →
   (∀ m, (Builtin.firstCells i.size sLen (.slice base sLen sCap)).run P { w with drawn := m } = .ok ⟨old'⟩ { w with drawn := m }) → VRs ρ old old' → allScalar old = true → old'.length = sLen * i.size → st1.next = st.next → HR ρ st1 w → Goes ρ st w ρ st1 w →
   Does P ρ st w (.vs (old ++ q.2) (sLen + q.1) (sLen + q.1) false (some st.next) i.size) (st1.new .spare) (Builtin.append_ A ty X) := by
  intro base sLen sCap old old' st1 hsv hfit hroom hold holdr holds hol hnx hH1 hG1
  subst hsv
  obtain ⟨cap', hc, hrun⟩ := append_grow (ty := ty) hA hA1 hX hX1 hu hi src hfit hroom hold (fun m => hz' _)
  obtain ⟨a, b⟩ := (hH1.drew (w.drawn + 1)).newVs (old' ++ new') ⟨old' ++ new' ++ repl (cap' - (sLen + q.1)) z'.cells.toList⟩ elem (by simp) (fun j v hj => by
   have hlt : j < (old' ++ new').length := by
    rcases Nat.lt_or_ge j (old' ++ new').length with h | h
    ·exact h
    ·rw [List.getElem?_eq_none h] at hj; cases hj
   simp only [List.getElem?_toArray]
   rw [List.getElem?_append_left hlt]; exact hj)
  refine ⟨_, _, _, hrun, (hG1.drew (w.drawn + 1) (Nat.le_succ _)).trans b, a, ?_⟩
  rw [← hnx]
  have hlen : (old ++ q.2).length = (sLen + q.1) * i.size := by rw [List.length_append, ← holdr.length, hol, hnl, Nat.add_mul]
  have hlen' : (old' ++ new').length = (sLen + q.1) * i.size := by rw [List.length_append, hol, hnl', Nat.add_mul]
  refine .vs (blk := w.heap.size) (off := 0) ((holdr.append hnew).mono b.le) (allScalar_append holds hsc) hlen (Nat.le_refl _) hc (fun e => by cases e) (.inr ⟨rfl, fun j v hj => Names.add_at _ _ _ _ hj⟩) ?_
  intro b' hb'
  injection hb' with hb'; subst hb'
  refine ⟨rfl, fun j v hj => Names.add_at _ _ _ _ hj, _, Names.set_same _ _ _, rfl, ?_, ?_⟩
  ·show (old' ++ new').length = 0 + _; rw [hlen']; omega
  ·show 0 + cap' * i.size ≤ (old' ++ new' ++ repl (cap' - (sLen + q.1)) z'.cells.toList).length
   rw [List.length_append, repl_length, hz3, hlen', ← Nat.add_mul]
   have : sLen + q.1 + (cap' - (sLen + q.1)) = cap' := by omega
   rw [this]; omega
 split at h
 ·-- nil
  cases hs
  by_cases c : q.1 = 0
  ·rw [beq_t c, ifb_true] at h
   injection h with h; injection h with h1 h2; subst h1; subst h2
   have hn0 : new' = [] := List.length_eq_zero_iff.1 (by rw [hnl', c]; simp)
   have := append_fit (ty := ty) (w' := w) hA hA1 hX hX1 hu hi src (by rw [c]; omega) (fun a ha => by cases ha) (fun _ => rfl)
   rw [c] at this
   exact ⟨ρ, w, _, this, Goes.refl, hH, .nilSlice⟩
  ·rw [beq_f c, ifb_false, ifb_none] at h
   obtain ⟨hroom, h⟩ := h
   cases hvm : (and st.vm (not (st.rw elem))) with
   | false =>
    rw [hvm, ifb_false] at h
    injection h with h; injection h with h1 h2; subst h1; subst h2
    have := grown none 0 0 [] [] st rfl (by omega) (by rw [Nat.zero_add]; exact hroom) (fun m => rfl) .nil rfl (by simp) rfl hH Goes.refl
    rw [Nat.zero_add, List.nil_append] at this
    exact this
   | true =>
    rw [hvm, ifb_true] at h
    injection h with h; injection h with h1 h2; subst h1; subst h2
    have := grownVs none 0 0 [] [] st rfl (by omega) (by rw [Nat.zero_add]; exact hroom) (fun m => rfl) .nil rfl (by simp) rfl hH Goes.refl
    rw [Nat.zero_add, List.nil_append] at this
    exact this
 ·rename_i b o len cap ex e
  rw [ifb_none] at h
  obtain ⟨he, h⟩ := h
  have he' : e = i.size := of_beq he
  subst he'
  cases hs with
  | slice hL hlen hcap hex hAd =>
   rename_i L a cap'
   by_cases c : len + q.1 ≤ cap
   ·rw [show Nat.ble (Nat.add len q.1) cap = true from ble_t c, ifb_true] at h
    by_cases c0 : q.1 = 0
    ·rw [beq_t c0, ifb_true] at h
     injection h with h; injection h with h1 h2; subst h1; subst h2
     have hn0 : new' = [] := List.length_eq_zero_iff.1 (by rw [hnl', c0]; simp)
     have := append_fit (ty := ty) (w' := w) hA hA1 hX hX1 hu hi src (by omega) (fun a' ha => by rw [hn0]; rfl) (fun h => by cases h)
     rw [c0, Nat.add_zero] at this
     exact ⟨ρ, w, _, this, Goes.refl, hH, .slice hL hlen hcap hex hAd⟩
    ·rw [beq_f c0, ifb_false, om_some] at h
     obtain ⟨st1, h1, h2⟩ := h
     injection h2 with h2 h3; subst h2; subst h3
     have hAd' : a = ⟨L.blk, L.off + o, none⟩ := by
      rcases hAd with hAd | hAd
      ·omega
      ·exact hAd.1
     obtain ⟨w', k1, k2, k3⟩ := storeCells_sound (P := P) hH h1 hL hnew
     have := append_fit (ty := ty) (w' := w') hA hA1 hX hX1 hu hi src (by omega) (fun a' ha => by
      injection ha with ha; subst ha; rw [hAd', addr_add, Nat.add_assoc]; exact k1) (fun h => by cases h)
     exact ⟨ρ, w', _, this, k3, k2, .slice hL c hcap hex hAd⟩
   ·rw [show Nat.ble (Nat.add len q.1) cap = false from ble_f (by show cap < len + q.1; omega), ifb_false, ifb_none] at h
    obtain ⟨hroom, h⟩ := h
    simp only [ob_some] at h
    obtain ⟨r, h1, old, h2, h3⟩ := h
    have h0 := rowOf_some.1 h1
    obtain ⟨L', hL', hO⟩ := hH.obj _ _ h0
    obtain rfl : L' = L := by rw [hL] at hL'; injection hL' with h; exact h.symm
    obtain ⟨s1, s2, s3⟩ := sub_some h2
    have s3' : old.length = len * i.size := s3
    have s2' : old = List.take (len * i.size) (List.drop o r.1) := s2
    have holds : allScalar old = true := by
     rw [allScalar_iff]
     intro u hu'
     rw [s2] at hu'
     have := List.mem_of_mem_drop (List.mem_of_mem_take hu')
     obtain ⟨j, hj, rfl⟩ := List.getElem_of_mem this
     obtain ⟨arr, e0, lo, hi0, r1, r2, r3, r4, r5⟩ := hO
     exact (r5 j _ (List.getElem?_eq_getElem hj)).1
    obtain ⟨old', hold, holdr, _⟩ := firstCells_sound (P := P) (size := i.size) (n := len) (cs := old) hH (x := .slice b o len cap ex i.size) (x' := .slice (some a) len cap')
     (by simp only [srcCells, ifb_none, ob_some]; exact ⟨beq_t rfl, r, h1, h2⟩) (.slice hL hlen hcap hex hAd) (fun m hm => by injection hm with hm; omega)
    have hol : old'.length = len * i.size := by rw [holdr.length, s3']
    cases ex with
    | true =>
     rw [ifb_true] at h3
     injection h3 with h3; injection h3 with h4 h5; subst h4; subst h5
     have := hex rfl
     exact grown (some a) len cap' old old' st rfl (by omega) hroom hold holdr holds hol rfl hH Goes.refl
    | false =>
     rw [ifb_false, ifb_none] at h3
     obtain ⟨hend, h3⟩ := h3
     injection h3 with h3; injection h3 with h4 h5; subst h4; subst h5
     rw [Bool.and_eq_true] at hend
     have ho0 : o = 0 := of_beq hend.1
     have hend' : o + len * i.size = r.1.length := of_beq hend.2
     by_cases c2 : len + q.1 ≤ cap'
     ·-- in place
      have hAd' : a = ⟨L'.blk, L'.off + o, none⟩ ∧ L'.off + o + cap' * i.size ≤ L'.tot := by
       rcases hAd with hAd | hAd
       ·omega
       ·exact hAd
      obtain ⟨arr, e0, lo, hi0, r1, r2, r3, r4, r5⟩ := hO
      have hroom2 : L'.off + o + (len + q.1) * i.size ≤ L'.tot := by
       have : (len + q.1) * i.size ≤ cap' * i.size := Nat.mul_le_mul_right _ c2
       omega
      rw [Nat.add_mul] at hroom2
      obtain ⟨arr', a1, a2, a3⟩ := storeCells_run (P := P) (o := L'.off + o + len * i.size) new' 0 arr w r1 (by rw [hnl', r2]; omega) (by rw [r2]; exact r4)
       (fun v' hv' => by
        obtain ⟨j, hj, rfl⟩ := List.getElem_of_mem hv'
        have hj' : j < q.2.length := by rw [← hnew.length]; exact hj
        obtain ⟨u, hu', hr⟩ := hnew.get (List.getElem?_eq_getElem hj')
        rw [List.getElem?_eq_getElem hj] at hu'
        injection hu' with hu'
        exact hu' ▸ hr.oneCell (allScalar_iff.1 hsc _ (List.getElem_mem hj')))
      have hrun := append_fit (ty := ty) hA hA1 hX hX1 hu hi src c2 (fun a' ha => by
       injection ha with ha; subst ha; rw [hAd'.1, addr_add]; exact a3) (fun h => by cases h)
      have hle := Names.set_le (⟨L'.blk, L'.off + o, L'.tot⟩ : Loc) hH.fresh
      have hrow : RowAt (ρ.set st.next ⟨L'.blk, L'.off + o, L'.tot⟩) ⟨L'.blk, L'.off + o, L'.tot⟩ (old ++ q.2) (some (.cells arr' e0 (lo, hi0))) := by
       refine ⟨arr', e0, lo, hi0, rfl, by rw [a1, r2], ?_, r4, ?_⟩
       ·refine ⟨by show L'.off + o = 0; have := r3.1; omega, ?_⟩
        show L'.off + o + (old ++ q.2).length ≤ L'.tot
        rw [List.length_append, s3', hnl]; omega
       ·intro j u hj
        refine ⟨allScalar_iff.1 (allScalar_append holds hsc) _ (List.mem_of_getElem? hj), ?_⟩
        show ∃ v', arr'[L'.off + o + j]? = some v' ∧ _
        rw [a2, hnl']
        by_cases c3 : j < old.length
        ·rw [List.getElem?_append_left c3, s2'] at hj
         have hjl : j < len * i.size := by omega
         rw [List.getElem?_take_of_lt hjl, List.getElem?_drop] at hj
         rw [if_neg (by omega)]
         obtain ⟨_, v', k1, k2⟩ := r5 _ _ hj
         exact ⟨v', by rw [Nat.add_assoc]; exact k1, k2.mono hle⟩
        ·rw [List.getElem?_append_right (by omega)] at hj
         have hjn : j - old.length < q.2.length := by
          rcases Nat.lt_or_ge (j - old.length) q.2.length with h | h
          ·exact h
          ·rw [List.getElem?_eq_none h] at hj; cases hj
         rw [if_pos (by omega)]
         obtain ⟨v', k1, k2⟩ := hnew.get hj
         exact ⟨v', by rw [show L'.off + o + j - (L'.off + o + len * i.size + 0) = j - old.length by omega]; exact k1, k2.mono hle⟩
      obtain ⟨g1, g2⟩ := hH.move h0 hL (.row (old ++ q.2) elem) (L'.off + o) _ hrow
      refine ⟨_, _, _, hrun, g2, g1, .slice (Names.set_same _ _ _) (Nat.le_refl _) c2 (fun e => by cases e) (.inr ⟨?_, ?_⟩)⟩
      ·rw [hAd'.1]; rfl
      ·show L'.off + o + 0 + cap' * i.size ≤ L'.tot
       omega
     ·obtain ⟨d1, d2⟩ := hH.del b
      exact grown (some a) len cap' old old' (st.del b) rfl (by omega) hroom hold holdr holds hol rfl d1 d2
 ·rename_i l len cap ex own e
  rw [ifb_none] at h
  obtain ⟨he, h⟩ := h
  have he' : e = i.size := of_beq he
  subst he'
  have hs0 := hs
  cases hs with
  | vs hv hsl hl hlen hcap hex hAd hO =>
   rename_i l' a cap' blk off
   have hsub : sub 0 (len * i.size) l = some l := by
    show takeX (len * i.size) l = some l
    rw [takeX_some]; exact ⟨by omega, by rw [List.take_of_length_le (by omega)]⟩
   obtain ⟨old', hold, holdr, _⟩ := firstCells_sound (P := P) (size := i.size) (n := len) (cs := l) hH (x := .vs l len cap ex own i.size) (x' := .slice (some a) len cap')
    (by simp only [srcCells, ifb_none]; exact ⟨beq_t rfl, hsub⟩) hs0 (fun m hm => by injection hm with hm; omega)
   have hol : old'.length = len * i.size := by rw [holdr.length, hl]
   cases own with
   | none =>
    by_cases c0 : q.1 = 0
    ·simp only [beq_t c0, ifb_true] at h
     injection h with h; injection h with h1 h2; subst h1; subst h2
     have hn0 : new' = [] := List.length_eq_zero_iff.1 (by rw [hnl', c0]; simp)
     have := append_fit (ty := ty) (w' := w) hA hA1 hX hX1 hu hi src (by omega) (fun a' ha => by rw [hn0]; rfl) (fun h => by cases h)
     rw [c0, Nat.add_zero] at this
     exact ⟨ρ, w, _, this, Goes.refl, hH, .vs hv hsl hl hlen hcap hex hAd hO⟩
    simp only [beq_f c0, ifb_false, ifb_none, Bool.and_eq_true] at h
    obtain ⟨hroom, ⟨hx, hcl⟩, h⟩ := h
    have hcl' : cap = len := of_beq hcl
    have hce := hex hx
    injection h with h; injection h with h1 h2; subst h1; subst h2
    exact grownVs (some a) len cap' l old' st rfl (by omega) hroom hold holdr hsl hol rfl hH Goes.refl
   | some b =>
    simp only [ifb_none, ob_some] at h
    obtain ⟨hroom, u, hsp, h⟩ := h
    injection h with h; injection h with h1 h2; subst h1; subst h2
    have h0 : st.heap.get b = some .spare := by
     unfold spareOf at hsp
     rw [ob_some] at hsp
     obtain ⟨o, k1, k2⟩ := hsp
     cases o <;> first | exact k1 | cases k2
    by_cases c2 : len + q.1 ≤ cap'
    ·obtain ⟨rfl, hm, L, hL, hLb, hLo, hLt⟩ := hO b rfl
     subst hLb
     obtain ⟨L', hL', arr, e0, lo, hi0, r1, r2, r3, r4⟩ := hH.obj _ _ h0
     obtain rfl : L' = L := by rw [hL] at hL'; injection hL' with h; exact h.symm
     have hroom2 : off + (len + q.1) * i.size ≤ L'.tot := by
      have : (len + q.1) * i.size ≤ cap' * i.size := Nat.mul_le_mul_right _ c2
      omega
     rw [Nat.add_mul] at hroom2
     obtain ⟨arr', a1, a2, a3⟩ := storeCells_run (P := P) (o := off + len * i.size) new' 0 arr w r1 (by rw [hnl', r2]; omega) (by rw [r2]; exact r4)
      (fun v' hv' => by
       obtain ⟨j, hj, rfl⟩ := List.getElem_of_mem hv'
       have hj' : j < q.2.length := by rw [← hnew.length]; exact hj
       obtain ⟨u, hu', hr⟩ := hnew.get (List.getElem?_eq_getElem hj')
       rw [List.getElem?_eq_getElem hj] at hu'
       injection hu' with hu'
       exact hu' ▸ hr.oneCell (allScalar_iff.1 hsc _ (List.getElem_mem hj')))
     have hrun := append_fit (ty := ty) hA hA1 hX hX1 hu hi src c2 (fun a' ha => by
      injection ha with ha; subst ha; rw [addr_add]; exact a3) (fun h => by cases h)
     obtain ⟨g1, g2⟩ := hH.grow h0 hL new' (.cells arr' e0 (lo, hi0)) ⟨arr', e0, lo, hi0, rfl, by rw [a1, r2], by rw [hLo, hnl']; omega, r4, fun j v hj => by
       have hlt : j < new'.length := by
        rcases Nat.lt_or_ge j new'.length with h | h
        ·exact h
        ·rw [List.getElem?_eq_none h] at hj; cases hj
       rw [a2, if_pos (by omega), show L'.off + j - (off + len * i.size + 0) = j by omega]; exact hj,
      fun j v hlt hc => by
       rw [a2, if_neg (by omega)]
       simpa [World.cell?, r1] using hc⟩
     have hold2 : ∀ j v, l'[j]? = some v → ((ρ.set st.next ⟨L'.blk, L'.off + new'.length, L'.tot⟩).add L'.blk L'.off new').mem L'.blk (off + j) = some v := fun j v hj => g2.le.mem _ _ _ (hm j v hj)
     have hall : ∀ j v, (l' ++ new')[j]? = some v → ((ρ.set st.next ⟨L'.blk, L'.off + new'.length, L'.tot⟩).add L'.blk L'.off new').mem L'.blk (off + j) = some v := fun j v hj => by
      have hll : l'.length = len * i.size := by rw [hv.length, hl]
      by_cases c3 : j < l'.length
      ·rw [List.getElem?_append_left c3] at hj; exact hold2 _ _ hj
      ·rw [List.getElem?_append_right (by omega)] at hj
       have := Names.add_at (ρ.set st.next ⟨L'.blk, L'.off + new'.length, L'.tot⟩) L'.blk L'.off new' hj
       rwa [show L'.off + (j - l'.length) = off + j by omega] at this
     refine ⟨_, _, _, hrun, g2, g1, .vs (blk := L'.blk) (off := off) ((hv.append hnew).mono g2.le) (allScalar_append hsl hsc) (by rw [List.length_append, hl, hnl]; exact (Nat.add_mul _ _ _).symm) (Nat.le_refl _) c2 (fun e => by cases e) (.inr ⟨rfl, hall⟩) ?_⟩
     intro b' hb'
     injection hb' with hb'; subst hb'
     refine ⟨rfl, hall, _, Names.set_same _ _ _, rfl, ?_, hLt⟩
     show L'.off + new'.length = off + (len + q.1) * i.size
     rw [hLo, hnl', Nat.add_mul]; omega
    ·obtain ⟨d1, d2⟩ := hH.del b
     exact grownVs (some a) len cap' l old' (st.del b) rfl (by omega) hroom hold holdr hsl hol rfl d1 d2
  | vsNil =>
   by_cases c0 : q.1 = 0
   ·simp only [beq_t c0, ifb_true] at h
    injection h with h; injection h with h1 h2; subst h1; subst h2
    have hn0 : new' = [] := List.length_eq_zero_iff.1 (by rw [hnl', c0]; simp)
    have := append_fit (ty := ty) (w' := w) hA hA1 hX hX1 hu hi src (by rw [c0]; omega) (fun a ha => by cases ha) (fun _ => rfl)
    rw [c0] at this
    exact ⟨ρ, w, _, this, Goes.refl, hH, .vsNil⟩
   ·simp only [beq_f c0, ifb_false, ifb_none, Bool.and_eq_true] at h
    obtain ⟨hroom, ⟨hx, hcl⟩, h⟩ := h
    injection h with h; injection h with h1 h2; subst h1; subst h2
    exact grownVs none 0 0 [] [] st rfl (by omega) hroom (fun m => rfl) .nil rfl (by simp) rfl hH Goes.refl
 ·cases h
end Go.Det
namespace Go.Det
variable {P : Program} {ρ : Names}
theorem copy_sound {st st' : St} {w : World} (hH : HR ρ st w) {dT ty : TypeId} {d s v : AV} {d' s' : Value} (h : copyA P st dT d s = some (v, st')) (hd : VR ρ d d') (hs : VR ρ s s')
  {A : Array TypeId} {X : Array Value} (hA : A[0]? = some dT) (hX : X[0]? = some d') (hX1 : X[1]? = some s') : Does P ρ st w v st' (Builtin.copy_ A ty X) := by
 unfold copyA at h
 split at h
 rotate_left
 ·cases h
 rename_i elem hu
 simp only [ob_some] at h
 obtain ⟨e, he, m, hm, k, hk, cs, hcs, h⟩ := h
 have hmin : ifb (Nat.ble m k) m k = Nat.min m k := by
  rw [ifb_eq]
  by_cases c : m ≤ k
  ·rw [if_pos (ble_t c)]; exact (Nat.min_eq_left c).symm
  ·rw [if_neg (by rw [ble_f (by omega)]; simp)]; exact (Nat.min_eq_right (by omega)).symm
 rw [hmin] at hcs h
 have hnm : Nat.min m k ≤ m := Nat.min_le_left _ _
 have hnk : Nat.min m k ≤ k := Nat.min_le_right _ _
 generalize hn : Nat.min m k = n at *
 obtain ⟨cs', hrun, hcr, hcl⟩ := firstCells_sound (P := P) hH hcs hs (fun x hx => by rw [hm] at hx; injection hx with hx; omega)
 have hrun0 : (Builtin.firstCells e n s').run P w = .ok ⟨cs'⟩ w := hrun w.drawn
 have hlen := lenOf_sound (P := P) hm hs w
 split at h
 ·rename_i b o l cap ex e'
  rw [ifb_none] at h
  obtain ⟨he', h⟩ := h
  have he'' : e = e' := of_beq he'
  subst he''
  simp only [lenA] at hk; injection hk with hk; subst hk
  cases hd with
  | slice hL hle hcap hex hAd =>
   rename_i L a cap'
   by_cases c : n = 0
   ·rw [beq_t c, ifb_true] at h
    injection h with h; injection h with h1 h2; subst h1; subst h2
    have : cs' = [] := List.length_eq_zero_iff.1 (by rw [hcr.length, hcl, c]; simp)
    subst this
    refine ⟨ρ, w, .int .i64 0, ?_, Goes.refl, hH, .int _ _⟩
    unfold Builtin.copy_
    simp only [hA, hX, hX1, Sem.run_bind, run_underlying' hu, Result.andThen_ok, hlen, run_sizeOf' he, hn, hrun0]
    subst c
    rfl
   ·rw [beq_f c, ifb_false, om_some] at h
    obtain ⟨st1, h1, h2⟩ := h
    injection h2 with h2 h3; subst h2; subst h3
    have hAd' : a = ⟨L.blk, L.off + o, none⟩ := by
     rcases hAd with hAd | hAd
     ·omega
     ·exact hAd.1
    obtain ⟨w', k1, k2, k3⟩ := storeCells_sound (P := P) hH h1 hL hcr
    refine ⟨ρ, w', .int .i64 n, ?_, k3, k2, .int _ _⟩
    unfold Builtin.copy_
    simp only [hA, hX, hX1, Sem.run_bind, run_underlying' hu, Result.andThen_ok, hlen, run_sizeOf' he, hn, hrun0]
    rw [hAd']
    simp only [k1, Result.andThen_ok]
    rfl
 ·injection h with h; injection h with h1 h2; subst h1; subst h2
  simp only [lenA] at hk; injection hk with hk; subst hk
  cases hd
  have hn0 : n = 0 := by omega
  have : cs' = [] := List.length_eq_zero_iff.1 (by rw [hcr.length, hcl, hn0]; simp)
  subst this
  refine ⟨ρ, w, .int .i64 0, ?_, Goes.refl, hH, .int _ _⟩
  unfold Builtin.copy_
  simp only [hA, hX, hX1, Sem.run_bind, run_underlying' hu, Result.andThen_ok, hlen, run_sizeOf' he, hn, hrun0]
  subst hn0
  rfl
 ·cases h
theorem clear_sound {st st' : St} {w : World} (hH : HR ρ st w) {t ty : TypeId} {x : AV} {x' : Value} (h : clearA P st t x = some st') (hx : VR ρ x x') {A : Array TypeId} {X : Array Value} (hA : A[0]? = some t) (hX : X[0]? = some x') :
  Does P ρ st w undefA st' (Builtin.clear_ A ty X) := by
 unfold clearA at h
 split at h
 ·rename_i key elem hu
  injection h with h; subst h; cases hx
  exact ⟨ρ, w, .tuple #[], by simp [Builtin.clear_, hA, hX, run_underlying' hu], Goes.refl, hH, .tuple .nil⟩
 ·rename_i elem hu
  injection h with h; subst h; cases hx
  exact ⟨ρ, w, .tuple #[], by simp [Builtin.clear_, hA, hX, run_underlying' hu], Goes.refl, hH, .tuple .nil⟩
 ·rename_i key elem b hu
  rw [om_some] at h
  obtain ⟨q, h1, rfl⟩ := h
  cases hx with
  | map hL =>
   rename_i L
   obtain ⟨es', h3, h4⟩ := map_at hH h1 hL
   obtain ⟨a, b'⟩ := put_map hH h1 hL (.nil : ERs ρ [] []) q.2
   refine ⟨ρ, _, .tuple #[], ?_, b', a, .tuple .nil⟩
   have hget : (getObj L.blk).run P w = .ok (.map ⟨es'⟩ q.2) w := by simp [getObj, Sem.run, h3]
   have hset : ∀ o, (setObj L.blk o).run P w = .ok () { w with heap := w.heap.setIfInBounds L.blk o } := fun o => by simp [setObj, Sem.run, h3]
   simp [Builtin.clear_, hA, hX, run_underlying' hu, hget, hset]
 ·rename_i elem b o n cap ex e hu
  cases hx with
  | slice hL hle hcap hex hAd =>
   rename_i L a cap'
   by_cases c : n = 0
   ·rw [beq_t c, ifb_true] at h
    injection h with h; subst h
    subst c
    exact ⟨ρ, w, .tuple #[], by simp [Builtin.clear_, hA, hX, run_underlying' hu], Goes.refl, hH, .tuple .nil⟩
   ·rw [beq_f c, ifb_false] at h
    simp only [ob_some, ifb_none] at h
    obtain ⟨s, h1, h2, z, h3, h4⟩ := h
    have hAd' : a = ⟨L.blk, L.off + o, none⟩ := by
     rcases hAd with hAd | hAd
     ·omega
     ·exact hAd.1
    obtain ⟨z', hz, hzr⟩ := zero_any (P := P) h3 ρ
    obtain ⟨w', k1, k2, k3⟩ := storeCells_sound (P := P) hH h4 hL (hzr.cells.repl n)
    refine ⟨ρ, w', .tuple #[], ?_, k3, k2, .tuple .nil⟩
    obtain ⟨n', rfl⟩ : ∃ n', n = n' + 1 := ⟨n - 1, by omega⟩
    simp [Builtin.clear_, hA, hX, run_underlying' hu, hz, zeroCells_eq, hAd', k1]
 ·cases h
theorem does_val {st st' : St} {w : World} {v : AV} {s : Sem Value} (h : Does P ρ st w v st' s) :
  ∃ ρ' w' v', (do pure (Next.value (← s)) : Sem Next).run P w = .ok (.value v') w' ∧ Goes ρ st w ρ' st' w' ∧ HR ρ' st' w' ∧ VR ρ' v v' := by
 obtain ⟨ρ', w', v', h1, h2, h3, h4⟩ := h
 exact ⟨ρ', w', v', by simp [h1], h2, h3, h4⟩
def Ans (P : Program) (ρ : Names) (st : St) (w : World) (s : Sem Next) : OpR → Prop
 | .val v st' => ∃ ρ' w' v', (s.run P w = .ok (.value v') w' ∨ (s.run P w = .ok .skip w' ∧ v' = Go.undef)) ∧ Goes ρ st w ρ' st' w' ∧ HR ρ' st' w' ∧ VR ρ' v v'
 | .call f args => ∃ args' : List Value, VRs ρ args args' ∧ s.run P w = (callFunc f ⟨args'⟩).run P w
 | .yld l args => ∃ (L : Loc) (args' : List Value), ρ l = some L ∧ VRs ρ args args' ∧ s.run P w = (Instr.yield L.blk ⟨args'⟩).run P w
 | .dfr f args => ∃ a c : List Value, VRs ρ args (a ++ c) ∧ s.run P w = .ok (.defer { target := .fn (.func f) ⟨c⟩, args := ⟨a⟩ }) w
theorem vst_some {r : Option (AV × St)} {x : OpR} : vst r = some x ↔ ∃ v st, r = some (v, st) ∧ x = .val v st := by
 unfold vst; rw [om_some]
 constructor
 ·rintro ⟨⟨v, st⟩, h, rfl⟩; exact ⟨v, st, h, rfl⟩
 ·rintro ⟨v, st, h, rfl⟩; exact ⟨(v, st), h, rfl⟩
theorem ust_some {r : Option St} {x : OpR} : ust r = some x ↔ ∃ st, r = some st ∧ x = .val undefA st := by
 unfold ust; rw [om_some]
 constructor
 ·rintro ⟨st, h, rfl⟩; exact ⟨st, h, rfl⟩
 ·rintro ⟨st, h, rfl⟩; exact ⟨st, h, rfl⟩
theorem VRs.arg1 {ev : Operand → Value} {args : Array Operand} {a b : AV} {l : List AV} (h : VRs ρ (a :: b :: l) (args.toList.map ev)) :
  ∃ (a' b' : Value), (args.map ev)[0]? = some a' ∧ (args.map ev)[1]? = some b' ∧ VR ρ a a' ∧ VR ρ b b' := by
 rw [← Array.toList_map] at h
 have e0 : ∀ i, (args.map ev)[i]? = (args.map ev).toList[i]? := fun i => by rw [Array.getElem?_toList]
 simp only [e0]
 generalize (args.map ev).toList = X at h
 cases h with
 | cons hv t => cases t with
  | cons hv2 t2 => exact ⟨_, _, by simp, by simp, hv, hv2⟩
theorem resolve_call {T : Tr AV} {ev : Operand → Value} (hT : ∀ x a, opd T x = some a → VR ρ a (ev x)) {w : World} {f : Operand} {args : Array Operand} {at_ : Array TypeId} {r : OpR} (h : callA T f args.toList = some r) (ty : TypeId) :
  (∃ g asl, r = .call g asl ∧ ∃ a c : List Value, VRs ρ asl (a ++ c) ∧ (resolve ev { callee := .value f, args, argTypes := at_ } ty).run P w = .ok { target := .fn (.func g) ⟨c⟩, args := ⟨a⟩ } w) ∨
  (∃ l asl, r = .yld l asl ∧ ∃ (L : Loc) (a : List Value), ρ l = some L ∧ VRs ρ asl a ∧ (resolve ev { callee := .value f, args, argTypes := at_ } ty).run P w = .ok { target := .fn (.yield L.blk) #[], args := ⟨a⟩ } w) := by
 simp only [callA, ob_some] at h
 obtain ⟨g, h1, asl, h2, h3⟩ := h
 have hg := hT _ _ h1
 have ha := opds_sound hT h2
 rw [← Array.toList_map] at ha
 split at h3
 ·rename_i k first cap
  injection h3 with h3
  left
  refine ⟨k, first ++ asl ++ cap, h3.symm, ?_⟩
  obtain ⟨z, hz⟩ : ∃ z, ev f = z := ⟨_, rfl⟩
  rw [hz] at hg
  cases hg with
  | func hf hc =>
   rename_i a' c'
   refine ⟨a' ++ (args.map ev).toList, c', (hf.append ha).append hc, ?_⟩
   simp [resolve, hz, Deferred.ofValue]
 ·rename_i l
  injection h3 with h3
  right
  refine ⟨l, asl, h3.symm, ?_⟩
  obtain ⟨z, hz⟩ : ∃ z, ev f = z := ⟨_, rfl⟩
  rw [hz] at hg
  cases hg with
  | yield hL => exact ⟨_, (args.map ev).toList, hL, ha, by simp [resolve, hz, Deferred.ofValue]; exact Array.ext' (by simp)⟩
 ·cases h3
theorem find_clone {fn : Func} (h : isClone fn = true) : Extern.findNext fn = none ∧ Extern.find fn = some Extern.MapsClone.clone := by
 unfold isClone at h
 simp only [Bool.and_eq_true, beq_iff_eq] at h
 obtain ⟨h1, h2⟩ := h
 constructor
 ·unfold Extern.findNext
  rw [h1, h2]
  rfl
 ·unfold Extern.find
  rw [h1, h2]
  rfl
theorem clone_sound {st st' : St} {w : World} (hH : HR ρ st w) {asl : List AV} {as' : List Value} {v : AV} (h : cloneA st asl = some (v, st')) (ha : VRs ρ asl as') : Does P ρ st w v st' (Extern.MapsClone.clone ⟨as'⟩) := by
 unfold cloneA at h
 split at h
 ·rename_i t b
  rw [om_some] at h
  obtain ⟨q, h1, h2⟩ := h
  injection h2 with h2 h3; subst h2; subst h3
  cases ha with
  | cons hv ht =>
   cases ht
   cases hv with
   | iface hv =>
    cases hv with
    | map hL =>
     rename_i L
     obtain ⟨es', h3, h4⟩ := map_at hH h1 hL
     have hle := Names.set_le (⟨w.heap.size, 0, 0⟩ : Loc) hH.fresh
     obtain ⟨a, b'⟩ := hH.new (.map q.1 q.2) ⟨w.heap.size, 0, 0⟩ (.map ⟨es'⟩ q.2) rfl ⟨es', rfl, h4.mono hle⟩
     refine ⟨_, _, .iface t (.map (some w.heap.size)), ?_, b', a, .iface (.map (Names.set_same _ _ _))⟩
     have hget : (getObj L.blk).run P w = .ok (.map ⟨es'⟩ q.2) w := by simp [getObj, Sem.run, h3]
     have e : Extern.MapsClone.clone #[.iface t (.map (some L.blk))] = (do
       let .map entries clock ← getObj L.blk | stuck "maps.clone: a map expected"
       pure (.iface t (.map (some (← newObj (.map entries clock)))))) := rfl
     show (Extern.MapsClone.clone #[.iface t (.map (some L.blk))]).run P w = _
     rw [e]
     simp only [Sem.run_bind, hget, Result.andThen_ok]
     simp [newObj, Sem.run, worldNew]
 ·cases h
theorem mrange_sound {st st' : St} {w : World} (hH : HR ρ st w) {t : TypeId} {x v : AV} {x' : Value} (h : mrangeA P st t x = some (v, st')) (hx : VR ρ x x') : Does P ρ st w v st' (Instr.range t x') := by
 unfold mrangeA at h
 split at h
 ·rename_i k e hu
  injection h with h; injection h with h1 h2; subst h1; subst h2
  cases hx
  obtain ⟨a, b⟩ := hH.new (.mit none) ⟨w.heap.size, 0, 0⟩ (.mapIter none 0 #[] 0) rfl ⟨none, 0, #[], 0, rfl, rfl, .inl ⟨rfl, rfl⟩⟩
  refine ⟨_, _, .pointer (some ⟨w.heap.size, 0, none⟩), ?_, b, a, .ptr (L := ⟨w.heap.size, 0, 0⟩) (Names.set_same _ _ _)⟩
  simp [Instr.range, run_underlying' hu, newObj, Sem.run, worldNew]
 ·rename_i k e b hu
  rw [om_some] at h
  obtain ⟨q, hq, h⟩ := h
  injection h with h1 h2; subst h1; subst h2
  cases hx with
  | map hL =>
   rename_i L
   obtain ⟨es', h3, h4⟩ := map_at hH hq hL
   have hget : (getObj L.blk).run P w = .ok (.map ⟨es'⟩ q.2) w := by simp [getObj, Sem.run, h3]
   obtain ⟨a, b'⟩ := hH.new (.mit (some b)) ⟨w.heap.size, 0, 0⟩ (.mapIter (some L.blk) q.2 #[] q.2) rfl ⟨some L.blk, q.2, #[], q.2, rfl, rfl, .inr ⟨b, L, rfl, Names.set_le _ hH.fresh _ _ hL, rfl⟩⟩
   refine ⟨_, _, .pointer (some ⟨w.heap.size, 0, none⟩), ?_, b', a, .ptr (L := ⟨w.heap.size, 0, 0⟩) (Names.set_same _ _ _)⟩
   simp [Instr.range, run_underlying' hu, hget, newObj, Sem.run, worldNew]
 ·cases h
theorem mnext_sound {st st' : St} {w : World} (hH : HR ρ st w) {x v : AV} {x' : Value} (h : mnextA st x = some (v, st')) (hx : VR ρ x x') (ty : TypeId) : Does P ρ st w v st' (Instr.next x' false ty) := by
 unfold mnextA at h
 split at h
 ·rename_i r
  rw [ob_some] at h
  obtain ⟨m, hm, h⟩ := h
  cases hx with
  | ptr hL =>
   rename_i L
   have h0 : st.heap.get r = some (.mit m) := by
    unfold mitOf at hm
    rw [ob_some] at hm
    obtain ⟨o, k1, k2⟩ := hm
    cases o <;> simp at k2
    subst k2; exact k1
   obtain ⟨L', hL', mm, s, seen, c, hof, h1, h2⟩ := hH.obj _ _ h0
   obtain rfl : L' = L := by rw [hL] at hL'; injection hL' with h; exact h.symm
   have hob : (getObj L'.blk).run P w = .ok (.mapIter mm s seen c) w := by simp [getObj, Sem.run, h1]
   have hch : (choose (Question.mapNext 1)).run P w = .ok 0 w := by simp [choose, Sem.run, Question.forced]
   rcases h2 with ⟨rfl, rfl⟩ | ⟨b, K, rfl, hK, rfl⟩
   ·injection h with h; injection h with h3 h4; subst h3; subst h4
    refine ⟨ρ, w, .tuple #[.bool false], ?_, Goes.refl, hH, .tuple (.cons (.bool false) .nil)⟩
    simp [Instr.next, hof, hob]
   ·simp only [ob_some] at h
    obtain ⟨q, hq, h⟩ := h
    split at h
    ·rename_i hq1
     injection h with h; injection h with h3 h4; subst h3; subst h4
     obtain ⟨es', g1, g2⟩ := map_at hH hq hK
     rw [hq1] at g2
     cases g2
     have hob2 : (getObj K.blk).run P w = .ok (.map #[] q.2) w := by simp [getObj, Sem.run, g1]
     refine ⟨ρ, w, .tuple #[.bool false], ?_, Goes.refl, hH, .tuple (.cons (.bool false) .nil)⟩
     simp [Instr.next, hof, hob, hob2, hch]
    ·cases h
 ·cases h
theorem aop_sound {T : Tr AV} {ev : Operand → Value} (hT : ∀ x a, opd T x = some a → VR ρ a (ev x)) {st : St} {w : World} (hH : HR ρ st w) {o : Oper} {r : OpR} (h : aop P T st o.op = some r) : Ans P ρ st w (execOp ev o) r := by
 by_cases hk : stillK (kd o.op) = true
 ·obtain ⟨v, rfl, v', h1, h2⟩ := still_sound hT hH h hk
  exact ⟨ρ, w, v', .inl h1, Goes.refl, hH, h2⟩
 by_cases hf : freshK (kd o.op) = true
 ·have : aop P T st o.op = freshR st (freshA P st.vm T st.next o.op) := by
   obtain ⟨dst, op, type, pos, after, guard⟩ := o
   cases op <;> first | rfl | (simp [kd, freshK] at hf; done) | skip
   rename_i c
   obtain ⟨callee, args, argTypes⟩ := c
   cases callee <;> simp [kd, freshK] at hf
   rename_i b
   cases b <;> simp at hf
  rw [this] at h
  unfold freshR at h
  rw [om_some] at h
  obtain ⟨q, h1, rfl⟩ := h
  obtain ⟨v', x, tot, k1, k2⟩ := fresh_sound (w := w) hT h1
  have hle := Names.set_le (⟨w.heap.size, 0, tot⟩ : Loc) hH.fresh
  have := k2 _ hle (Names.set_same _ _ _)
  obtain ⟨a, b⟩ := hH.new q.2 ⟨w.heap.size, 0, tot⟩ x rfl this.2
  exact ⟨_, _, v', .inl k1, b, a, this.1⟩
 have skip : ∀ {st' : St} {s : Sem Unit}, DoesU P ρ st w st' s → Ans P ρ st w (do s; pure .skip) (.val undefA st') := by
  rintro st' s ⟨ρ', w', h1, h2, h3⟩
  exact ⟨ρ', w', .tuple #[], .inr ⟨by simp [h1], rfl⟩, h2, h3, .tuple .nil⟩
 obtain ⟨dst, op, type, pos, after, guard⟩ := o
 dsimp only at h hk hf ⊢
 cases op <;> try (simp [kd, stillK] at hk; done)
 all_goals try (simp [kd, freshK] at hf; done)
 all_goals dsimp only [execOp]
 all_goals simp only [aop, ob_some, ptrR_some, ust_some, vst_some, reduceCtorEq] at h
 case store t a v =>
  obtain ⟨av, h1, vv, h2, b, o, rfl, st', h3, rfl⟩ := h
  have ha := hT _ _ h1
  apply skip
  generalize ev a = z at ha ⊢
  cases ha with
  | ptr hL =>
   obtain ⟨w', k1, k2, k3⟩ := storeVar_sound (P := P) hH h3 hL (hT _ _ h2)
   exact ⟨ρ, w', by simp [Instr.storeAt, Instr.sureAddr, k1], k3, k2⟩
 case mapUpdate t m k x =>
  obtain ⟨mv, h1, kv, h2, xv, h3, st', h4, rfl⟩ := h
  exact skip (mapUpdate_sound hH h4 (hT _ _ h1) (hT _ _ h2) (hT _ _ h3))
 case insert t m k x =>
  obtain ⟨mv, h1, kv, h2, xv, h3, st', h4, rfl⟩ := h
  exact skip (mapUpdate_sound hH h4 (hT _ _ h1) (hT _ _ h2) (hT _ _ h3))
 case mapEntry t m k =>
  obtain ⟨mv, h1, kv, h2, v, st', h4, rfl⟩ := h
  obtain ⟨ρ', w', v', k1, k2, k3, k4⟩ := does_val (mapEntry_sound hH h4 (hT _ _ h1) (hT _ _ h2))
  exact ⟨ρ', w', v', .inl k1, k2, k3, k4⟩
 case entryStore t m s x =>
  obtain ⟨mv, h1, sv, h2, xv, h3, st', h4, rfl⟩ := h
  exact skip (entryStore_sound hH h4 (hT _ _ h1) (hT _ _ h2) (hT _ _ h3))
 case range t x =>
  obtain ⟨xv, h1, v, st', h4, rfl⟩ := h
  obtain ⟨ρ', w', v', k1, k2, k3, k4⟩ := does_val (mrange_sound hH h4 (hT _ _ h1))
  exact ⟨ρ', w', v', .inl k1, k2, k3, k4⟩
 case next x s =>
  obtain ⟨xv, h1, v, st', h4, rfl⟩ := h
  rw [ifb_none'] at h4
  obtain ⟨rfl, h4⟩ := h4
  obtain ⟨ρ', w', v', k1, k2, k3, k4⟩ := does_val (mnext_sound hH h4 (hT _ _ h1) type)
  exact ⟨ρ', w', v', .inl k1, k2, k3, k4⟩
 case call c =>
  obtain ⟨callee, args, argTypes⟩ := c
  cases callee <;> simp only [reduceCtorEq, ob_some] at h
  ·rename_i f
   obtain ⟨r1, h, hbd⟩ := h
   rcases resolve_call (P := P) (w := w) (at_ := argTypes) hT h type with ⟨g, asl, rfl, a, c, k1, k2⟩ | ⟨l, asl, rfl, L, a, k1, k2, k3⟩
   ·simp only [bodied, ob_some] at hbd
    obtain ⟨fn, hfn, hbd⟩ := hbd
    split at hbd
    ·injection hbd with hbd; subst hbd
     refine ⟨a ++ c, k1, ?_⟩
     rw [Sem.run_bind, k2]
     simp [invoke]
    ·rename_i hbody
     rw [ifb_none] at hbd
     obtain ⟨hcl, hbd⟩ := hbd
     obtain ⟨v, st', h3, rfl⟩ := vst_some.1 hbd
     obtain ⟨ρ', w', v', k3, k4, k5, k6⟩ := clone_sound (P := P) hH h3 k1
     refine ⟨ρ', w', v', .inl ?_, k4, k5, k6⟩
     obtain ⟨f1, f2⟩ := find_clone hcl
     have hname : ¬ fn.name = "runtime.NumGoroutine" := by
      unfold isClone at hcl
      simp only [Bool.and_eq_true, beq_iff_eq] at hcl
      rw [hcl.1]; decide
     rw [Sem.run_bind, k2]
     simp [invoke, callFunc, hfn, hname, hbody, f1, f2, run_mark, k3]
   ·simp only [bodied] at hbd
    injection hbd with hbd; subst hbd
    refine ⟨L, a, k1, k2, ?_⟩
    rw [Sem.run_bind, k3]
    simp [invoke]
  ·rename_i b
   have hres : (resolve ev { callee := .builtin b, args, argTypes } type).run P w = .ok { target := .builtin b argTypes type (args.map fun | .const _ => true | _ => false), args := args.map ev } w := by
    rfl
   simp only [builtinA, ob_some] at h
   obtain ⟨asl, h1, h⟩ := h
   have hs := opds_sound hT h1
   have fin : ∀ {v : AV} {st' : St} {s : Sem Value}, (builtin b argTypes type (args.map fun | .const _ => true | _ => false) (args.map ev)) = (do pure (.value (← s))) → Does P ρ st w v st' s →
     Ans P ρ st w (do let d ← resolve ev { callee := .builtin b, args, argTypes } type; invoke d.target d.args) (.val v st') := by
    intro v st' s he hd
    obtain ⟨ρ', w', v', k1, k2, k3, k4⟩ := does_val hd
    refine ⟨ρ', w', v', .inl ?_, k2, k3, k4⟩
    rw [Sem.run_bind, hres]
    simp only [Result.andThen_ok, invoke]
    rw [he]; exact k1
   cases b <;> simp only [reduceCtorEq] at h <;> try (simp [kd, stillK] at hk; done)
   case append =>
    obtain ⟨a, b, t, l, rfl, ht, h⟩ := arg2_some h
    obtain ⟨v, st', h3, rfl⟩ := vst_some.1 h
    obtain ⟨a', b', e0, e1, ha, hb⟩ := hs.arg1
    refine fin rfl (append_sound hH h3 ha hb (head_at ht) ?_ e0 e1)
    rw [← Array.getElem?_toList, ht]; cases l <;> rfl
   case clear =>
    obtain ⟨a, t, l, rfl, ht, h⟩ := arg1_some h
    obtain ⟨st', h3, rfl⟩ := ust_some.1 h
    obtain ⟨a', l', e, ha, _⟩ := hs.args
    exact fin rfl (clear_sound hH h3 ha (head_at ht) (head_at e))
   case copy =>
    obtain ⟨a, b, t, l, rfl, ht, h⟩ := arg2_some h
    obtain ⟨v, st', h3, rfl⟩ := vst_some.1 h
    obtain ⟨a', b', e0, e1, ha, hb⟩ := hs.arg1
    exact fin rfl (copy_sound hH h3 ha hb (head_at ht) e0 e1)
   case delete =>
    obtain ⟨a, b, t, l, rfl, ht, h⟩ := arg2_some h
    obtain ⟨st', h3, rfl⟩ := ust_some.1 h
    obtain ⟨a', b', e0, e1, ha, hb⟩ := hs.arg1
    exact fin rfl (delete_sound hH h3 ha hb (head_at ht) e0 e1)
 case defer c =>
  obtain ⟨callee, args, argTypes⟩ := c
  cases callee <;> simp only [reduceCtorEq] at h
  rename_i f
  simp only [ob_some] at h
  obtain ⟨r1, h1, h2⟩ := h
  rcases resolve_call (P := P) (w := w) (at_ := argTypes) hT h1 type with ⟨g, asl, rfl, a, c, k1, k2⟩ | ⟨l, asl, rfl, L, a, k1, k2, k3⟩
  ·injection h2 with h2; subst h2
   exact ⟨a, c, k1, by rw [Sem.run_bind, k2]; rfl⟩
  ·cases h2
end Go.Det
namespace Go.Det
variable {P : Program} {ρ : Names}
def on (b : Frame) (tm : Array Value) (df : List Deferred) (todo : List Item) : Frame :=
  { fn := b.fn, tmps := tm, todo, defers := df, mode := .run, kind := b.kind, roundOf := b.roundOf }
def evT (tm : Array Value) : Operand → Value
 | .tmp t => tm.getD t Go.undef
 | .const v => v
 | .global g => .pointer (some ⟨g, 0, none⟩)
 | .func f => .func (.func f) #[] #[]
theorem on_eval (b : Frame) (tm : Array Value) (df : List Deferred) (todo : List Item) : (on b tm df todo).eval = evT tm := by
 funext x; cases x <;> rfl
theorem evT_sound {nt : Nat} {T : Tr AV} {tm : Array Value} (h : TR ρ nt T tm) : ∀ x a, opd T x = some a → VR ρ a (evT tm x) := by
 intro x a hx
 cases x with
 | tmp t =>
  obtain ⟨v', h1, h2⟩ := h.2 t a hx
  simpa [evT, h1] using h2
 | const v => exact ofVal_sound ρ _ _ _ hx
 | global g => injection hx with hx; subst hx; exact .gptr
 | func f => injection hx with hx; subst hx; exact .func .nil .nil
inductive DR (ρ : Names) : ADef → Deferred → Prop where
 | call {f : FuncId} {args : List AV} {a c : List Value} (h : VRs ρ args (a ++ c)) : DR ρ (.call f args) { target := .fn (.func f) ⟨c⟩, args := ⟨a⟩ }
 | collected {r : Nat} {L : Loc} (h : ρ r = some L) : DR ρ (.collected r) { target := .collected L.blk, args := #[] }
inductive DRs (ρ : Names) : List ADef → List Deferred → Prop where
 | nil : DRs ρ [] []
 | cons {d : ADef} {d' : Deferred} {l : List ADef} {l' : List Deferred} (h : DR ρ d d') (t : DRs ρ l l') : DRs ρ (d :: l) (d' :: l')
theorem DR.mono {ρ ρ' : Names} (hl : ρ.le ρ') {d : ADef} {d' : Deferred} (h : DR ρ d d') : DR ρ' d d' := by
 cases h with
 | call h => exact .call (h.mono hl)
 | collected h => exact .collected (hl _ _ h)
theorem DRs.mono {ρ ρ' : Names} (hl : ρ.le ρ') : ∀ {d : List ADef} {d' : List Deferred}, DRs ρ d d' → DRs ρ' d d'
 | _, _, .nil => .nil
 | _, _, .cons h t => .cons (h.mono hl) (t.mono hl)
section steps
variable {b : Frame} {tm : Array Value} {df : List Deferred} {k : List Item} {cs : List Frame} {w : World}
theorem st_skip : step P (lone (on b tm df (.code .skip :: k)) cs w) = .next (lone (on b tm df k) cs w) := step_lone_go (by simp [stepG, stepG.exec, on])
theorem st_label {l : Nat} : step P (lone (on b tm df (.code (.label l) :: k)) cs w) = .next (lone (on b tm df k) cs w) := step_lone_go (by simp [stepG, stepG.exec, on])
theorem st_inBlock {id : Nat} : step P (lone (on b tm df (.inBlock id :: k)) cs w) = .next (lone (on b tm df k) cs w) := step_lone_go (by simp [stepG, stepG.exec, on])
theorem st_seq {x y : Code} : step P (lone (on b tm df (.code (.seq x y) :: k)) cs w) = .next (lone (on b tm df (.code x :: .code y :: k)) cs w) := step_lone_go (by simp [stepG, stepG.exec, on])
theorem st_cond {c : Operand} {x y : Code} {t : Bool} (h : evT tm c = .bool t) : step P (lone (on b tm df (.code (.cond c x y) :: k)) cs w) = .next (lone (on b tm df (.code (if t then x else y) :: k)) cs w) :=
 step_lone_go (by
  have := congrFun (on_eval b tm df (.code (.cond c x y) :: k)) c
  simp only [on] at this
  simp [stepG, stepG.exec, on, this, h])
theorem st_block {id : Nat} {c : Code} : step P (lone (on b tm df (.code (.block id c) :: k)) cs w) = .next (lone (on b tm df (.code c :: .inBlock id :: k)) cs w) := step_lone_go (by simp [stepG, stepG.exec, on])
theorem st_loop {c : Code} : step P (lone (on b tm df (.code (.loop c) :: k)) cs w) = .next (lone (on b tm df (.code c :: .inLoop c :: k)) cs w) := step_lone_go (by simp [stepG, stepG.exec, on])
theorem st_inLoop {c : Code} : step P (lone (on b tm df (.inLoop c :: k)) cs w) = .next (lone (on b tm df (.code c :: .inLoop c :: k)) cs w) := step_lone_go (by simp [stepG, stepG.exec, on])
theorem st_exit {id : Nat} {k' : List Item} (h : exitTo id k = some k') : step P (lone (on b tm df (.code (.exit id) :: k)) cs w) = .next (lone (on b tm df k') cs w) := step_lone_go (by simp [stepG, stepG.exec, on, h])
theorem st_region {id : Nat} {ops : Array Oper} : step P (lone (on b tm df (.code (.region id ops false) :: k)) cs w) = .next (lone (on b tm df (.inRegion ops (List.range ops.size) :: k)) cs w) := step_lone_go (by simp [stepG, stepG.exec, on])
theorem st_draw {id : Nat} {ops : Array Oper} : step P (lone (on b tm df (.code (.region id ops true) :: k)) cs w) =
  .next (lone (on b tm df (.inRegion ops (Region.schedule (P.follows .mixedOrders) ops (w.tape w.drawn (.order b.fn id))) :: k)) cs { w with drawn := w.drawn + 1 }) :=
 step_lone_go (by simp [stepG, stepG.exec, on, choose, Sem.run, Question.forced, Question.cut])
theorem st_regionEnd {ops : Array Oper} : step P (lone (on b tm df (.inRegion ops [] :: k)) cs w) = .next (lone (on b tm df k) cs w) := step_lone_go (by simp [stepG, stepG.exec, on])
end steps
def putC (tm : Array Value) (dst : Option Tmp) (v : Value) : Array Value :=
 match dst with
 | some d => tm.setIfInBounds d v
 | none => tm
theorem finish_on (b : Frame) (tm : Array Value) (df : List Deferred) (ops : Array Oper) (i : Nat) (rest : List Nat) (k : List Item) (v : Value) :
  (on b tm df (.inRegion ops (i :: rest) :: k)).finish v = on b (putC tm ((ops[i]?).bind (·.dst)) v) df (.inRegion ops rest :: k) := by
 cases h : (ops[i]?).bind (·.dst) <;> simp [Frame.finish, on, putC, h]
theorem st_unwanted {b : Frame} {tm : Array Value} {df : List Deferred} {k : List Item} {cs : List Frame} {w : World} {ops : Array Oper} {i : Nat} {rest : List Nat} {o : Oper}
  (ho : ops[i]? = some o) (hw : Region.wanted o (yielded ops tm) = false) :
  step P (lone (on b tm df (.inRegion ops (i :: rest) :: k)) cs w) = .next (lone (on b (putC tm o.dst Go.undef) df (.inRegion ops rest :: k)) cs w) := by
 have e := finish_on b tm df ops i rest k Go.undef
 rw [ho] at e
 simp only [Option.bind_some] at e
 rw [← e]
 exact step_lone_go (by simp [stepG, stepG.exec, on, ho, hw])
theorem stepG_on {b : Frame} {tm : Array Value} {df : List Deferred} {k : List Item} {cs : List Frame} {w : World} {ops : Array Oper} {i : Nat} {rest : List Nat} {o : Oper}
  (ho : ops[i]? = some o) (hw : Region.wanted o (yielded ops tm) = true) (hd : b.roundOf = none ∨ ∀ c, o.op ≠ .defer c) :
  stepG P true { frame := on b tm df (.inRegion ops (i :: rest) :: k), callers := cs, status := .running, dying := none } w =
   stepG.apply P true (on b tm df (.inRegion ops (i :: rest) :: k)) cs none (execOp (evT tm) o) w := by
 have he := on_eval b tm df (.inRegion ops (i :: rest) :: k)
 simp only [on] at he
 rcases hd with hd | hd
 ·rw [hd] at he; simp [stepG, stepG.exec, stepG.oper, Frame.oper?, on, ho, hw, he, hd]
 ·cases hr : b.roundOf with
  | none => rw [hr] at he; simp [stepG, stepG.exec, stepG.oper, Frame.oper?, on, ho, hw, he, hr]
  | some l =>
   have : ∀ (x : GStep) (y : Call → GStep), (match o.op with | .defer c => y c | _ => x) = x := by
    intro x y
    cases hop : o.op <;> first | rfl | exact absurd hop (hd _)
   simp only [stepG, stepG.exec, stepG.oper, Frame.oper?, on, ho, hw, he, hr, Option.map_some, Option.getD_some, if_true]
   cases hop : o.op <;> first | rfl | exact absurd hop (hd _)
section apply
variable {fr : Frame} {cs : List Frame} {w w' : World} {s : Sem Next}
theorem ap_value {v : Value} (h : s.run P w = .ok (.value v) w') : (stepG.apply P true fr cs none s w).bare = .go { frame := fr.finish v, callers := cs, status := .running, dying := none } w' := by
 simp [stepG.apply, h]
theorem ap_skip (h : s.run P w = .ok .skip w') : (stepG.apply P true fr cs none s w).bare = .go { frame := fr.finish Go.undef, callers := cs, status := .running, dying := none } w' := by
 simp [stepG.apply, h]
theorem ap_defer {d : Deferred} (h : s.run P w = .ok (.defer d) w') : (stepG.apply P true fr cs none s w).bare = .go { frame := ({ fr with defers := d :: fr.defers } : Frame).finish Go.undef, callers := cs, status := .running, dying := none } w' := by
 simp only [stepG.apply, Sem.runT_eq, h, GStep.bare_after]; rfl
theorem ap_enter {f : FuncId} {args : Array Value} (h : s.run P w = .ok (.enter f args) w') (hk : ∀ d r sv rest, fr.todo ≠ .call d true r sv :: rest) :
  (stepG.apply P true fr cs none s w).bare = .go { frame := Frame.enter P f args .normal, callers := fr :: cs, status := .running, dying := none } w' := by
 have : (match fr.todo with | .call _ true _ _ :: _ => CallKind.wrapped | _ => .normal) = .normal := by
  split
  ·rename_i d r sv rest e; exact absurd e (hk _ _ _ _)
  ·rfl
 simp only [stepG.apply, Sem.runT_eq, h, GStep.bare_after, this]; rfl
theorem ap_round {l : Nat} {f : FuncId} {tmps : Array Value} {asl body : Code} (h : s.run P w = .ok (.round l f tmps asl body) w') :
  (stepG.apply P true fr cs none s w).bare = .go { frame := Frame.round l f tmps asl body .normal, callers := fr :: cs, status := .running, dying := none } w' := by
 simp only [stepG.apply, Sem.runT_eq, h, GStep.bare_after]; rfl
end apply
inductive RoR (ρ : Names) : Option Nat → Option Nat → Prop where
 | none : RoR ρ none none
 | some {l : Nat} {L : Loc} (h : ρ l = some L) : RoR ρ (some l) (some L.blk)
theorem RoR.mono {ρ ρ' : Names} (hl : ρ.le ρ') {a b : Option Nat} (h : RoR ρ a b) : RoR ρ' a b := by
 cases h with
 | none => exact .none
 | some h => exact .some (hl _ _ h)
def Arr (P : Program) (m : Machine) (b : Frame) (k : List Item) (cs : List Frame) : Ex → Array Value → List Deferred → World → Prop
 | .normal, tm, df, w => Steps P m (lone (on b tm df k) cs w)
 | .exit id, tm, df, w => ∃ k2, exitTo id k2 = exitTo id k ∧ Steps P m (lone (on b tm df (.code (.exit id) :: k2)) cs w)
 | .ret, tm, df, w => ∃ k2, Steps P m (lone (on b tm df (.code .ret :: k2)) cs w)
theorem Arr.of_steps {m m1 : Machine} {b : Frame} {k : List Item} {cs : List Frame} {e : Ex} {tm : Array Value} {df : List Deferred} {w : World} (h : Steps P m m1) (h' : Arr P m1 b k cs e tm df w) : Arr P m b k cs e tm df w := by
 cases e with
 | normal => exact Steps.trans h h'
 | exit id => obtain ⟨k2, a, c⟩ := h'; exact ⟨k2, a, h.trans c⟩
 | ret => obtain ⟨k2, c⟩ := h'; exact ⟨k2, h.trans c⟩
def Ran (P : Program) (nt : Nat) (ρ : Names) (st : St) (w : World) (o : Out) (m : Machine) (b : Frame) (k : List Item) (cs : List Frame) : Prop :=
 ∃ ρ' w' tm' df', Goes ρ st w ρ' o.st w' ∧ HR ρ' o.st w' ∧ TR ρ' nt o.tmps tm' ∧ DRs ρ' o.defers df' ∧ Arr P m b k cs o.ex tm' df' w'
def CodeOk (P : Program) (r : Rec) : Prop :=
 ∀ ro fn nt c T D st o, r.code ro fn nt c T D st = some o → ∀ ρ w tm df b k cs, HR ρ st w → TR ρ nt T tm → DRs ρ D df → b.fn = fn → RoR ρ ro b.roundOf →
  Ran P nt ρ st w o (lone (on b tm df (.code c :: k)) cs w) b k cs
def Leaves (P : Program) (f : FuncId) (kind : CallKind) (fr : Frame) (v : Value) (w : World) : Prop :=
 fr.fn = f ∧ fr.kind = kind ∧ fr.mode = .returning ∧ fr.defers = [] ∧ ∃ fn, P.funcs[f]? = some fn ∧ (results fn fr.tmps).run P w = .ok v w
def CallK (P : Program) (kind : CallKind) (f : FuncId) (args : List AV) (st : St) (v : AV) (st' : St) : Prop :=
 (∀ (X : Array Value) (w : World), (callFunc f X).run P w = .ok (.enter f X) w) ∧
  ∀ ρ w args' cs, HR ρ st w → VRs ρ args args' → ∃ ρ' w' v' fr', Goes ρ st w ρ' st' w' ∧ HR ρ' st' w' ∧ VR ρ' v v' ∧
   Steps P (lone (Frame.enter P f ⟨args'⟩ kind) cs w) (lone fr' cs w') ∧ Leaves P f kind fr' v' w'
abbrev CallS (P : Program) := CallK P .normal
def CallOk (P : Program) (call : FuncId → List AV → St → Option (AV × St)) : Prop := ∀ f args st v st', call f args st = some (v, st') → CallS P f args st v st'
def CallOkD (P : Program) (call : FuncId → List AV → St → Option (AV × St)) : Prop := ∀ f args st v st', call f args st = some (v, st') → ∀ kind, CallK P kind f args st v st'
theorem st_leave {f : FuncId} {fr c : Frame} {cs : List Frame} {w : World} {v : Value} (h : Leaves P f .normal fr v w) : step P (lone fr (c :: cs) w) = .next (lone (c.finish v) cs w) := by
 obtain ⟨hf, hk, hm, hd, fn, hfn, hr⟩ := h
 subst hf
 exact step_lone_go (by simp [stepG, unwind, doReturn, hm, hd, hk, hfn, hr])
theorem st_leave_deferred {f : FuncId} {fr c : Frame} {cs : List Frame} {w : World} {v : Value} (h : Leaves P f .deferred fr v w) (hc : c.mode = .returning) : step P (lone fr (c :: cs) w) = .next (lone c cs w) := by
 obtain ⟨hf, hk, hm, hd, fn, hfn, hr⟩ := h
 subst hf
 exact step_lone_go (by simp [stepG, unwind, doReturn, hm, hd, hk, hfn, hr, hc])
theorem putDst_sound {nt : Nat} {T T' : Tr AV} {tm : Array Value} {dst : Option Tmp} {v : AV} {v' : Value} (h : putDst nt T dst v = some T') (hT : TR ρ nt T tm) (hv : VR ρ v v') : TR ρ nt T' (putC tm dst v') := by
 cases dst with
 | none => injection h with h; subst h; exact hT
 | some d =>
  change ifb (Nat.ble (Nat.succ d) nt) (some (T.set d v)) none = some T' at h
  rw [ifb_none] at h
  obtain ⟨h1, h2⟩ := h
  injection h2 with h2; subst h2
  have hd : d < tm.size := Nat.lt_of_lt_of_le (of_ble h1) hT.1
  refine ⟨by simpa [putC] using hT.1, fun t u hu => ?_⟩
  rw [Tr.get_set] at hu
  by_cases e : t = d
  ·subst e
   rw [if_pos rfl] at hu; injection hu with hu; subst hu
   exact ⟨v', by simp [putC, hd], hv⟩
  ·rw [if_neg e] at hu
   obtain ⟨u', h3, h4⟩ := hT.2 _ _ hu
   refine ⟨u', ?_, h4⟩
   simp only [putC, Array.getElem?_setIfInBounds]
   rw [if_neg (fun he => e he.symm)]; exact h3
theorem yieldedA_sound {nt : Nat} {T : Tr AV} {tm : Array Value} (hT : TR ρ nt T tm) {ops : Array Oper} {j : Nat} {p : Oper} (hp : ops[j]? = some p) {y : Option Bool} (h : yieldedA T p = some y) : yielded ops tm j = y := by
 unfold yieldedA at h
 simp only [ob_some] at h
 obtain ⟨d, h1, v, h2, h3⟩ := h
 obtain ⟨v', k1, k2⟩ := hT.2 _ _ h2
 split at h3
 ·injection h3 with h3; subst h3
  cases k2
  simp [yielded, hp, h1, k1]
 ·injection h3 with h3; subst h3
  cases k2
  simp [yielded, hp, h1, k1]
 ·cases h3
theorem wantedA_sound {nt : Nat} {T : Tr AV} {tm : Array Value} (hT : TR ρ nt T tm) {ops : Array Oper} {o : Oper} {b : Bool} (h : wantedA T ops.toList o = some b) : Region.wanted o (yielded ops tm) = b := by
 unfold wantedA at h
 unfold Region.wanted
 cases hg : o.guard with
 | none => rw [hg] at h; injection h
 | some g =>
  rw [hg] at h
  change (ob (nth g.1 ops.toList) fun p => om (isWant g.2) (yieldedA T p)) = some b at h
  simp only [ob_some, om_some, nth_eq, Array.getElem?_toList] at h
  obtain ⟨p, h1, c, h2, rfl⟩ := h
  obtain ⟨j, want⟩ := g
  simp only
  rw [yieldedA_sound hT h1 h2]
  cases c with
  | none => rfl
  | some c =>
   show _ = eqBool c want
   rw [eqBool_eq]
   cases c <;> cases want <;> rfl
end Go.Det
namespace Go.Det
variable {P : Program} {ρ : Names}
theorem loopOf_some {st : St} {b : Nat} {l : ALoop} : loopOf st b = some l ↔ st.heap.get b = some (.loop l) := by
 unfold loopOf
 rw [ob_some]
 constructor
 ·rintro ⟨o, h, h'⟩
  cases o <;> simp at h'
  subst h'; exact h
 ·intro h; exact ⟨_, h, rfl⟩
theorem loop_at {st : St} {w : World} (hH : HR ρ st w) {b : Nat} {l : ALoop} (h : loopOf st b = some l) {L : Loc} (hL : ρ b = some L) :
  ∃ (tm : Array Value) (d : Loc), w.heap[L.blk]? = some (.loop { state := l.state, pending := l.pending, fn := l.fn, tmps := tm, params := ⟨l.params⟩, assign := l.assign, body := l.body, defers := d.blk }) ∧ TR ρ l.nt l.tmps tm ∧ ρ l.defers = some d := by
 obtain ⟨L', hL', hO⟩ := hH.obj _ _ (loopOf_some.1 h)
 obtain rfl : L' = L := by rw [hL] at hL'; injection hL' with h; exact h.symm
 exact hO
theorem put_loop {st : St} {w : World} (hH : HR ρ st w) {b : Nat} {l : ALoop} (h : loopOf st b = some l) {L : Loc} (hL : ρ b = some L) (s : LoopState) (p : Option Code) :
  ∃ (tm : Array Value) (d : Loc), w.heap[L.blk]? = some (.loop { state := l.state, pending := l.pending, fn := l.fn, tmps := tm, params := ⟨l.params⟩, assign := l.assign, body := l.body, defers := d.blk }) ∧ TR ρ l.nt l.tmps tm ∧ ρ l.defers = some d ∧
  HR ρ (st.put b (.loop { l with state := s, pending := p })) { w with heap := w.heap.setIfInBounds L.blk (.loop { state := s, pending := p, fn := l.fn, tmps := tm, params := ⟨l.params⟩, assign := l.assign, body := l.body, defers := d.blk }) } ∧
  Goes ρ st w ρ (st.put b (.loop { l with state := s, pending := p })) { w with heap := w.heap.setIfInBounds L.blk (.loop { state := s, pending := p, fn := l.fn, tmps := tm, params := ⟨l.params⟩, assign := l.assign, body := l.body, defers := d.blk }) } := by
 obtain ⟨tm, d, h1, h2, h3⟩ := loop_at hH h hL
 have := hH.put (loopOf_some.1 h) hL (.loop { l with state := s, pending := p }) (.loop { state := s, pending := p, fn := l.fn, tmps := tm, params := ⟨l.params⟩, assign := l.assign, body := l.body, defers := d.blk }) ⟨tm, d, rfl, h2, h3⟩ _ rfl
 exact ⟨tm, d, h1, h2, h3, this.1, this.2⟩
theorem setAll_sound {nt : Nat} : ∀ {ps : List Tmp} {vs : List AV} {vs' : List Value} {T T' : Tr AV} {tm : Array Value}, setAll nt T ps vs = some T' → TR ρ nt T tm → VRs ρ vs vs' →
  vs'.length = ps.length ∧ TR ρ nt T' ((ps.zip vs').foldl (fun tm (p : Nat × Value) => tm.setIfInBounds p.1 p.2) tm)
 | [], [], _, T, T', tm, h, hT, .nil => by simp only [setAll] at h; injection h with h; subst h; exact ⟨rfl, hT⟩
 | [], _ :: _, _, T, T', tm, h, hT, _ => by simp [setAll] at h
 | _ :: _, [], _, T, T', tm, h, hT, _ => by simp [setAll] at h
 | p :: ps, v :: vs, _, T, T', tm, h, hT, .cons hv t => by
  simp only [setAll, ifb_none] at h
  obtain ⟨h1, h2⟩ := h
  have := putDst_sound (dst := some p) (show putDst nt T (some p) v = some (T.set p v) by show ifb _ _ _ = _; rw [h1]; rfl) hT hv
  obtain ⟨k1, k2⟩ := setAll_sound h2 this t
  exact ⟨by simp [k1], k2⟩
theorem isNil_eq {α : Type} {l : List α} (h : isNil l = true) : l = [] := by cases l <;> simp_all [isNil]
theorem yield_sound {r : Rec} (hc : CodeOk P r) {l : Nat} {args : List AV} {st st' : St} {v : AV} (h : yieldA r l args st = some (v, st')) {w : World} (hH : HR ρ st w) {L : Loc} (hL : ρ l = some L) {args' : List Value} (ha : VRs ρ args args') :
    ∃ (f : FuncId) (tmps : Array Value) (asl body : Code), (Instr.yield L.blk ⟨args'⟩).run P w = .ok (.round L.blk f tmps asl body) w ∧
      ∀ (c : Frame) (cs : List Frame), ∃ ρ' w' v', Goes ρ st w ρ' st' w' ∧ HR ρ' st' w' ∧ VR ρ' v v' ∧
        Steps P (lone (Frame.round L.blk f tmps asl body .normal) (c :: cs) w) (lone (c.finish v') cs w') := by
  simp only [yieldA, ob_some] at h
  obtain ⟨p, h1, T, h2, o1, h3, h⟩ := h
  obtain ⟨tm, d, k1, k2, k3⟩ := loop_at hH h1 hL
  obtain ⟨k4, k5⟩ := setAll_sound h2 k2 ha
  refine ⟨p.fn, ((p.params.zip args').foldl (fun tm (q : Nat × Value) => tm.setIfInBounds q.1 q.2) tm), p.assign, p.body, ?_, ?_⟩
  · simp [Instr.yield, Instr.getLoop, getObj, Sem.run, k1, k4]
  intro c cs
  let b : Frame := Frame.round L.blk p.fn ((p.params.zip args').foldl (fun tm (q : Nat × Value) => tm.setIfInBounds q.1 q.2) tm) p.assign p.body .normal
  have hstart : Frame.round L.blk p.fn ((p.params.zip args').foldl (fun tm (q : Nat × Value) => tm.setIfInBounds q.1 q.2) tm) p.assign p.body .normal = on b ((p.params.zip args').foldl (fun tm (q : Nat × Value) => tm.setIfInBounds q.1 q.2) tm) [] [.code p.assign, .beginRound, .code p.body] := rfl
  obtain ⟨ρ1, w1, tm1, df1, g1, H1, T1, D1, A1⟩ := hc _ _ _ _ _ _ _ _ h3 ρ w _ [] b [.beginRound, .code p.body] (c :: cs) hH k5 .nil rfl (.some hL)
  rw [hstart]
  split at h
  rotate_left
  · cases h
  rename_i he1
  rw [he1] at A1
  simp only [ob_some] at h
  obtain ⟨q, h4, h⟩ := h
  split at h
  rotate_left
  · cases h
  rename_i hq
  simp only [ob_some, ifb_none, om_some] at h
  obtain ⟨o2, h5, hn, q2, h6, h7⟩ := h
  have hL1 := g1.le _ _ hL
  obtain ⟨tm2, d2, m1, m2, m3, H2, G2⟩ := put_loop H1 h4 hL1 .busy q.pending
  -- beginRound
  have hbegin : step P (lone (on b tm1 df1 [.beginRound, .code p.body]) (c :: cs) w1) = .next (lone (on b tm1 df1 [.code p.body]) (c :: cs)
      { w1 with heap := w1.heap.setIfInBounds L.blk (.loop { state := .busy, pending := q.pending, fn := q.fn, tmps := tm2, params := ⟨q.params⟩, assign := q.assign, body := q.body, defers := d2.blk }) }) := by
    refine step_lone_go ?_
    have hrun : (do b.roundOf.elim (stuck "beginRound: no round") Instr.beginRound; pure .skip : Sem Next).run P w1 = .ok .skip { w1 with heap := w1.heap.setIfInBounds L.blk (.loop { state := .busy, pending := q.pending, fn := q.fn, tmps := tm2, params := ⟨q.params⟩, assign := q.assign, body := q.body, defers := d2.blk }) } := by
      simp [b, Frame.round, Instr.beginRound, Instr.getLoop, getObj, setObj, Sem.run, m1, hq]
    have := ap_skip (fr := on b tm1 df1 [.beginRound, .code p.body]) (cs := c :: cs) hrun
    simpa [stepG, stepG.exec, on, Frame.finish] using this
  obtain ⟨ρ3, w3, tm3, df3, g3, H3, T3, D3, A3⟩ := hc _ _ _ _ _ _ _ _ h5 ρ1 _ tm1 df1 b [] (c :: cs) H2 T1 D1 rfl (.some hL1)
  have hd3 : df3 = [] := by
    have := isNil_eq hn
    rw [this] at D3; cases D3; rfl
  subst hd3
  have hL3 := g3.le _ _ hL1
  have G13 := (g1.trans G2).trans g3
  have toBody := Steps.trans A1 (.one hbegin)
  -- the end of the round
  have fin : ∀ (jump : Option Code) (k2 : List Item),
      ((stepG P true { frame := on b tm3 [] k2, callers := c :: cs, status := .running, dying := none } w3) =
        (let (r, es) := (Instr.endRound L.blk jump).runT P w3 #[]
         GStep.after (seen P (on b tm3 [] k2).fn es) <| match r with
          | .ok v w => doReturn P true (on b tm3 [] k2) (c :: cs) none v w
          | .halt _ w => .ended (.stuck "range over a function: no such loop" ((on b tm3 [] k2).pos P)) w)) →
      ∃ w', HR ρ3 (o2.st.put l (.loop { q2 with state := if jump.isNone then .ready else .done, pending := jump })) w' ∧ Goes ρ3 o2.st w3 ρ3 (o2.st.put l (.loop { q2 with state := if jump.isNone then .ready else .done, pending := jump })) w' ∧
        step P (lone (on b tm3 [] k2) (c :: cs) w3) = .next (lone (c.finish (.bool jump.isNone)) cs w') := by
    intro jump k2 hs
    obtain ⟨tm4, d4, n1, n2, n3, H4, G4⟩ := put_loop H3 h6 hL3 (if jump.isNone then .ready else .done) jump
    refine ⟨_, H4, G4, step_lone_go ?_⟩
    rw [hs]
    have hrun : (Instr.endRound L.blk jump).run P w3 = .ok (.bool jump.isNone) { w3 with heap := w3.heap.setIfInBounds L.blk (.loop { state := if jump.isNone then .ready else .done, pending := jump, fn := q2.fn, tmps := tm4, params := ⟨q2.params⟩, assign := q2.assign, body := q2.body, defers := d4.blk }) } := by
      simp [Instr.endRound, Instr.getLoop, getObj, setObj, Sem.run, n1]
    simp only [Sem.runT_eq, hrun]
    simp [doReturn, on, b, Frame.round]
  cases he : o2.ex with
  | normal =>
    rw [he] at A3 h7
    injection h7 with e1 e2; subst e1; subst e2
    obtain ⟨w', a1, a2, a3⟩ := fin none [] rfl
    exact ⟨ρ3, w', .bool true, G13.trans a2, a1, .bool _, toBody.trans (Steps.trans A3 (.one a3))⟩
  | exit id =>
    rw [he] at A3 h7
    injection h7 with e1 e2; subst e1; subst e2
    obtain ⟨k2, x1, x2⟩ := A3
    have x1' : exitTo id k2 = none := by rw [x1]; rfl
    obtain ⟨w', a1, a2, a3⟩ := fin (some (.exit id)) (.code (.exit id) :: k2) (by simp only [stepG, stepG.exec, on, x1', Option.elim]; rfl)
    exact ⟨ρ3, w', .bool false, G13.trans a2, a1, .bool _, toBody.trans (Steps.trans x2 (.one a3))⟩
  | ret =>
    rw [he] at A3 h7
    injection h7 with e1 e2; subst e1; subst e2
    obtain ⟨k2, x2⟩ := A3
    obtain ⟨w', a1, a2, a3⟩ := fin (some .ret) (.code .ret :: k2) rfl
    exact ⟨ρ3, w', .bool false, G13.trans a2, a1, .bool _, toBody.trans (Steps.trans x2 (.one a3))⟩
theorem one_sound {r : Rec} (hc : CodeOk P r) (hk : CallOk P r.call) {cd : Bool} {nt : Nat} {T : Tr AV} {D : List ADef} {st : St} {o : Oper} {m : Mid} (h : one P r cd nt T D st o = some m) {w : World} {tm : Array Value} {df : List Deferred}
  (hH : HR ρ st w) (hT : TR ρ nt T tm) (hD : DRs ρ D df) {b : Frame} (hb : cd = true → b.roundOf = none) {ops : Array Oper} {i : Nat} (ho : ops[i]? = some o) (hw : Region.wanted o (yielded ops tm) = true) (rest : List Nat) (k : List Item) (cs : List Frame) :
  ∃ ρ' w' tm' df', Goes ρ st w ρ' m.st w' ∧ HR ρ' m.st w' ∧ TR ρ' nt m.tmps tm' ∧ DRs ρ' m.defers df' ∧
   Steps P (lone (on b tm df (.inRegion ops (i :: rest) :: k)) cs w) (lone (on b tm' df' (.inRegion ops rest :: k)) cs w') := by
 simp only [one, ob_some] at h
 obtain ⟨x, h1, h2⟩ := h
 have hA := aop_sound (P := P) (evT_sound hT) hH h1
 have hfin := fun v => finish_on b tm df ops i rest k v
 simp only [ho, Option.bind_some] at hfin
 have notDefer : (∀ f asl, x ≠ .dfr f asl) → b.roundOf = none ∨ ∀ c, o.op ≠ .defer c := fun hx => .inr fun c hop => by
  rw [hop] at h1
  simp only [aop] at h1
  split at h1
  ·simp only [ob_some] at h1
   obtain ⟨r1, _, h4⟩ := h1
   split at h4
   ·injection h4 with h4; exact hx _ _ h4.symm
   ·cases h4
  ·cases h1
 cases x with
 | val v st' =>
  have hg := stepG_on (P := P) (b := b) (df := df) (k := k) (cs := cs) (w := w) (rest := rest) ho hw (notDefer (fun _ _ => by simp))
  change om (fun T => (⟨T, D, st'⟩ : Mid)) (putDst nt T o.dst v) = some m at h2
  rw [om_some] at h2
  obtain ⟨T', h3, rfl⟩ := h2
  obtain ⟨ρ', w', v', hr, g, H, V⟩ := hA
  refine ⟨ρ', w', putC tm o.dst v', df, g, H, putDst_sound h3 (hT.mono g.le) V, hD.mono g.le, .one (step_lone_go ?_)⟩
  rw [hg, ← hfin]
  rcases hr with hr | ⟨hr, rfl⟩
  ·exact ap_value hr
  ·exact ap_skip hr
 | call f args =>
  have hg := stepG_on (P := P) (b := b) (df := df) (k := k) (cs := cs) (w := w) (rest := rest) ho hw (notDefer (fun _ _ => by simp))
  change (ob (r.call f args st) fun p => om (fun T => (⟨T, D, p.2⟩ : Mid)) (putDst nt T o.dst p.1)) = some m at h2
  simp only [ob_some, om_some] at h2
  obtain ⟨p, h3, T', h4, rfl⟩ := h2
  obtain ⟨args', ha, hr⟩ := hA
  obtain ⟨hen, hcall⟩ := hk _ _ _ _ _ (show r.call f args st = some (p.1, p.2) from h3)
  rw [hen] at hr
  obtain ⟨ρ', w', v', fr', g, H, V, hs, hl⟩ := hcall ρ w args' (on b tm df (.inRegion ops (i :: rest) :: k) :: cs) hH ha
  have henter : step P (lone (on b tm df (.inRegion ops (i :: rest) :: k)) cs w) = .next (lone (Frame.enter P f ⟨args'⟩ .normal) (on b tm df (.inRegion ops (i :: rest) :: k) :: cs) w) :=
   step_lone_go (by rw [hg]; exact ap_enter hr (by simp [on]))
  refine ⟨ρ', w', putC tm o.dst v', df, g, H, putDst_sound h4 (hT.mono g.le) V, hD.mono g.le, .head henter (hs.trans (.one ?_))⟩
  rw [← hfin]; exact st_leave hl
 | yld l args =>
  have hg := stepG_on (P := P) (b := b) (df := df) (k := k) (cs := cs) (w := w) (rest := rest) ho hw (notDefer (fun _ _ => by simp))
  change (ob (yieldA r l args st) fun p => om (fun T => (⟨T, D, p.2⟩ : Mid)) (putDst nt T o.dst p.1)) = some m at h2
  simp only [ob_some, om_some] at h2
  obtain ⟨p, h3, T', h4, rfl⟩ := h2
  obtain ⟨L, args', hL, ha, hr⟩ := hA
  obtain ⟨f, tmps, asl, body, hy, hround⟩ := yield_sound hc (show yieldA r l args st = some (p.1, p.2) from h3) hH hL ha
  rw [hy] at hr
  obtain ⟨ρ', w', v', g, H, V, hs⟩ := hround (on b tm df (.inRegion ops (i :: rest) :: k)) cs
  have henter : step P (lone (on b tm df (.inRegion ops (i :: rest) :: k)) cs w) = .next (lone (Frame.round L.blk f tmps asl body .normal) (on b tm df (.inRegion ops (i :: rest) :: k) :: cs) w) :=
   step_lone_go (by rw [hg]; exact ap_round hr)
  refine ⟨ρ', w', putC tm o.dst v', df, g, H, putDst_sound h4 (hT.mono g.le) V, hD.mono g.le, .head henter ?_⟩
  rw [← hfin]; exact hs
 | dfr f args =>
  change ifb cd (om (fun T => (⟨T, .call f args :: D, st⟩ : Mid)) (putDst nt T o.dst undefA)) none = some m at h2
  rw [ifb_none, om_some] at h2
  obtain ⟨hcd, T', h3, rfl⟩ := h2
  have hg := stepG_on (P := P) (b := b) (df := df) (k := k) (cs := cs) (w := w) (rest := rest) ho hw (.inl (hb hcd))
  obtain ⟨a, c, ha, hr⟩ := hA
  refine ⟨ρ, w, putC tm o.dst Go.undef, _ :: df, Goes.refl, hH, putDst_sound h3 hT (.tuple .nil), .cons (.call ha) hD, .one (step_lone_go ?_)⟩
  rw [hg, ap_defer hr]
  have := finish_on b tm ({ target := .fn (.func f) ⟨c⟩, args := ⟨a⟩ } :: df) ops i rest k Go.undef
  simp only [ho, Option.bind_some] at this
  rw [← this]
  rfl
theorem ops_sound {r : Rec} (hc : CodeOk P r) (hk : CallOk P r.call) {cd : Bool} {nt : Nat} {ops : Array Oper} {b : Frame} (hb : cd = true → b.roundOf = none) (k : List Item) (cs : List Frame) :
  ∀ (l : List Oper) (n : Nat) (idx : List Nat) (T : Tr AV) (D : List ADef) (st : St) (m : Mid), opsRun P r cd nt ops.toList l T D st = some m → idx = (List.range l.length).map (n + ·) → (∀ j, j < l.length → ops[n + j]? = l[j]?) →
  ∀ (ρ : Names) (w : World) (tm : Array Value) (df : List Deferred), HR ρ st w → TR ρ nt T tm → DRs ρ D df →
  ∃ ρ' w' tm' df', Goes ρ st w ρ' m.st w' ∧ HR ρ' m.st w' ∧ TR ρ' nt m.tmps tm' ∧ DRs ρ' m.defers df' ∧
   Steps P (lone (on b tm df (.inRegion ops idx :: k)) cs w) (lone (on b tm' df' k) cs w') := by
 intro l
 induction l with
 | nil =>
  intro n idx T D st m h hidx _ ρ w tm df hH hT hD
  injection h with h; subst h
  simp at hidx; subst hidx
  exact ⟨ρ, w, tm, df, Goes.refl, hH, hT, hD, .one st_regionEnd⟩
 | cons o l ih =>
  intro n idx T D st m h hidx hl ρ w tm df hH hT hD
  have ho : ops[n]? = some o := by have := hl 0 (by simp); simpa using this
  have hidx' : idx = n :: (List.range l.length).map ((n + 1) + ·) := by
   rw [hidx, List.length_cons, List.range_succ_eq_map, List.map_cons, List.map_map]
   simp only [Nat.add_zero]
   congr 1
   apply List.map_congr_left
   intro j _
   simp [Function.comp]; omega
  have hl' : ∀ j, j < l.length → ops[n + 1 + j]? = l[j]? := fun j hj => by
   have := hl (j + 1) (by simp; omega)
   rw [show n + 1 + j = n + (j + 1) by omega, this]; simp
  change (ob (wantedA T ops.toList o) fun b => Bool.rec (ob (putDst nt T o.dst undefA) fun T => opsRun P r cd nt ops.toList l T D st)
   (ob (one P r cd nt T D st o) fun m => Mid.rec (fun T D st => opsRun P r cd nt ops.toList l T D st) m) b) = some m at h
  simp only [ob_some] at h
  obtain ⟨bw, h1, h2⟩ := h
  have hw := wantedA_sound hT h1
  subst hidx'
  cases bw with
  | false =>
   simp only [ob_some] at h2
   obtain ⟨T', h3, h4⟩ := h2
   obtain ⟨ρ', w', tm', df', g, H, hT', hD', hs⟩ := ih (n + 1) _ T' D st m h4 rfl hl' ρ w (putC tm o.dst Go.undef) df hH (putDst_sound h3 hT (.tuple .nil)) hD
   exact ⟨ρ', w', tm', df', g, H, hT', hD', .head (st_unwanted ho hw) hs⟩
  | true =>
   simp only [ob_some] at h2
   obtain ⟨m1, h3, h4⟩ := h2
   obtain ⟨ρ1, w1, tm1, df1, g1, H1, T1, D1, s1⟩ := one_sound hc hk h3 hH hT hD hb ho hw ((List.range l.length).map ((n + 1) + ·)) k cs
   obtain ⟨ρ', w', tm', df', g, H, hT', hD', hs⟩ := ih (n + 1) _ m1.tmps m1.defers m1.st m h4 rfl hl' ρ1 w1 tm1 df1 H1 T1 D1
   exact ⟨ρ', w', tm', df', g1.trans g, H, hT', hD', s1.trans hs⟩
end Go.Det
namespace Go.Det
variable {P : Program} {ρ : Names}
theorem opds_congr {T T' : Tr AV} : ∀ {l : List Operand}, (∀ x ∈ l, opd T x = opd T' x) → opds T l = opds T' l
 | [], _ => rfl
 | x :: l, h => by
  simp only [opds]
  rw [h x (by simp), opds_congr fun y hy => h y (by simp [hy])]
theorem opdPairs_congr {T T' : Tr AV} : ∀ {l : List (Nat × Operand)}, (∀ p ∈ l, opd T p.2 = opd T' p.2) → opdPairs T l = opdPairs T' l
 | [], _ => rfl
 | x :: l, h => by
  simp only [opdPairs]
  rw [h x (by simp), opdPairs_congr fun y hy => h y (by simp [hy])]
theorem opdO_congr {T T' : Tr AV} {o : Option Operand} (h : ∀ x, o = some x → opd T x = opd T' x) : opdO T o = opdO T' o := by
 cases o with
 | none => rfl
 | some x => simp only [opdO]; rw [h x rfl]
theorem freshA_congr {T T' : Tr AV} {op : Op} (h : ∀ x ∈ op.operands.toList, opd T x = opd T' x) (vm : Bool) (name : Nat) : freshA P vm T name op = freshA P vm T' name op := by
 cases op <;> try rfl
 case box e x => simp only [freshA]; rw [h x (by simp [Op.operands])]
 case buildSlice t n parts =>
  simp only [freshA]
  rw [opdPairs_congr fun p hp => h p.2 ?_]
  simp only [Op.operands, Array.toList_map, List.mem_map]
  exact ⟨p, hp, rfl⟩
 case makeSlice t l c => simp only [freshA]; rw [h l (by simp [Op.operands]), h c (by simp [Op.operands])]
 case makeMap t r => cases r <;> rfl
theorem callA_congr {T T' : Tr AV} {f : Operand} {args : List Operand} (h : ∀ x ∈ f :: args, opd T x = opd T' x) : callA T f args = callA T' f args := by
 simp only [callA]
 rw [h f (by simp), opds_congr fun y hy => h y (by simp [hy])]
theorem aop_congr {T T' : Tr AV} {op : Op} (h : ∀ x ∈ op.operands.toList, opd T x = opd T' x) (st : St) : aop P T st op = aop P T' st op := by
 have hf := fun vm name => freshA_congr (P := P) h vm name
 cases op <;> try rfl
 all_goals try (simp only [aop]; rw [hf]; done)
 case build t parts =>
  simp only [aop]
  rw [opdPairs_congr fun p hp => h p.2 ?_]
  simp only [Op.operands, Array.toList_map, List.mem_map]
  exact ⟨p, hp, rfl⟩
 case makeFunc c a b =>
  cases c <;> try rfl
  simp only [aop]
  rw [opds_congr fun y hy => h y (by simp [Op.operands, hy]), opds_congr fun y hy => h y (by simp [Op.operands, hy])]
 case slice t x lo hi mx =>
  simp only [aop]
  rw [h x (by simp [Op.operands]), opdO_congr fun y hy => h y (by simp [Op.operands, hy]), opdO_congr fun y hy => h y (by simp [Op.operands, hy]), opdO_congr fun y hy => h y (by simp [Op.operands, hy])]
 case call c =>
  obtain ⟨callee, args, at_⟩ := c
  cases callee
  ·simp only [aop]
   rw [callA_congr fun y hy => h y (by simpa [Op.operands, Call.operands] using hy)]
  ·rfl
  ·simp only [aop, builtinA]
   rw [opds_congr fun y hy => h y (by simpa [Op.operands, Call.operands] using hy)]
 case defer c =>
  obtain ⟨callee, args, at_⟩ := c
  cases callee <;> try rfl
  simp only [aop]
  rw [callA_congr fun y hy => h y (by simpa [Op.operands, Call.operands] using hy)]
 all_goals (simp [Op.operands] at h; simp [aop, h])
theorem aop_pure {T : Tr AV} {op : Op} {st st1 : St} {v : AV} (hk : kd op = .pure) (h : aop P T st op = some (.val v st1)) (st2 : St) : aop P T st2 op = some (.val v st2) := by
 cases op
 case makeFunc c a b =>
  cases c <;> simp only [aop, ob_some, reduceCtorEq] at h ⊢
  obtain ⟨x, h1, y, h2, h3⟩ := h
  injection h3 with h3
  injection h3 with h3 _; subst h3
  exact ⟨x, h1, y, h2, rfl⟩
 case call c =>
  obtain ⟨callee, args, at_⟩ := c
  cases callee <;> simp only [kd, reduceCtorEq] at hk
  rename_i b
  simp only [aop, builtinA, ob_some] at h ⊢
  obtain ⟨asl, h1, h2⟩ := h
  refine ⟨asl, h1, ?_⟩
  cases b <;> simp only [reduceCtorEq] at hk h2 ⊢
  ·obtain ⟨a, t, l, rfl, e, h3⟩ := arg1_some h2
   rw [jst_some] at h3
   obtain ⟨u, h4, h5⟩ := h3
   injection h5 with h5 _; subst h5
   rw [e]
   show jst st2 (capA P t a) = _
   rw [h4]; rfl
  ·unfold argN at h2 ⊢
   split at h2
   ·rw [jst_some] at h2 ⊢
    obtain ⟨u, h4, h5⟩ := h2
    injection h5 with h5 _; subst h5
    exact ⟨_, h4, rfl⟩
   ·cases h2
  ·unfold argN at h2 ⊢
   split at h2
   ·rw [jst_some] at h2 ⊢
    obtain ⟨u, h4, h5⟩ := h2
    injection h5 with h5 _; subst h5
    exact ⟨_, h4, rfl⟩
   ·cases h2
 all_goals simp only [kd, reduceCtorEq] at hk
 all_goals simp only [aop, ob_some, jst_some, ifb_none, ptrR_some, ptrV_some, ifb_none', reduceCtorEq] at h ⊢
 case pick c a b =>
  obtain ⟨x, h1, h2⟩ := h
  refine ⟨x, h1, ?_⟩
  split at h2
  ·rw [jst_some] at h2 ⊢
   obtain ⟨u, h4, h5⟩ := h2
   injection h5 with h5 _; subst h5
   exact ⟨_, h4, rfl⟩
  ·rw [jst_some] at h2 ⊢
   obtain ⟨u, h4, h5⟩ := h2
   injection h5 with h5 _; subst h5
   exact ⟨_, h4, rfl⟩
  ·cases h2
 case nilCheck x =>
  obtain ⟨x, h1, h2⟩ := h
  refine ⟨x, h1, ?_⟩
  split at h2 <;> first | (injection h2 with h2; injection h2 with h2 _; subst h2; rfl) | cases h2
 case field t x f =>
  obtain ⟨x, h1, fd, h2, h3⟩ := h
  refine ⟨x, h1, fd, h2, ?_⟩
  split at h3
  ·rw [jst_some] at h3 ⊢
   obtain ⟨u, h4, h5⟩ := h3
   injection h5 with h5 _; subst h5
   exact ⟨_, h4, rfl⟩
  ·cases h3
 case extract x i =>
  obtain ⟨x, h1, h3⟩ := h
  refine ⟨x, h1, ?_⟩
  split at h3
  ·rw [jst_some] at h3 ⊢
   obtain ⟨u, h4, h5⟩ := h3
   injection h5 with h5 _; subst h5
   exact ⟨_, h4, rfl⟩
  ·cases h3
 all_goals grind
theorem wantedA_congr {T T' : Tr AV} {ops : List Oper} {o : Oper} (h : ∀ t, t ∈ looks ops o → T.get t = T'.get t) : wantedA T ops o = wantedA T' ops o := by
 unfold wantedA
 cases hg : o.guard with
 | none => rfl
 | some g =>
  show (ob (nth g.1 ops) fun p => om (isWant g.2) (yieldedA T p)) = (ob (nth g.1 ops) fun p => om (isWant g.2) (yieldedA T' p))
  cases hp : nth g.1 ops with
  | none => rfl
  | some p =>
   show om (isWant g.2) (yieldedA T p) = om (isWant g.2) (yieldedA T' p)
   unfold yieldedA
   cases hd : p.dst with
   | none => rfl
   | some d =>
    show om (isWant g.2) (ob (T.get d) _) = om (isWant g.2) (ob (T'.get d) _)
    rw [h d (by simp [looks, hg, hp, hd])]
theorem mem_tmpsOf {t : Tmp} : ∀ {l : List Operand}, .tmp t ∈ l → t ∈ tmpsOf l
 | x :: l, h => by
  rcases List.mem_cons.1 h with h | h
  ·subst h; simp [tmpsOf]
  ·have ih := mem_tmpsOf h
   cases x <;> simp [tmpsOf, ih]
theorem opd_looks {T T' : Tr AV} {ops : List Oper} {o : Oper} (h : ∀ t, t ∈ looks ops o → T.get t = T'.get t) : ∀ x ∈ o.op.operands.toList, opd T x = opd T' x := by
 intro x hx
 cases x <;> try rfl
 exact h _ (by unfold looks; exact List.mem_append_right _ (mem_tmpsOf hx))
theorem restrict (T : Tr AV) : ∀ L : List Tmp, ∃ T' : Tr AV, ∀ t, T'.get t = if t ∈ L then T.get t else none
 | [] => ⟨.leaf, fun t => by simp [Tr.get]⟩
 | t0 :: L => by
  obtain ⟨T', h⟩ := restrict T L
  cases hv : T.get t0 with
  | none =>
   refine ⟨T', fun t => ?_⟩
   rw [h t]
   by_cases e : t = t0
   ·subst e; simp [hv]
   ·simp [e]
  | some v =>
   refine ⟨T'.set t0 v, fun t => ?_⟩
   rw [Tr.get_set]
   by_cases e : t = t0
   ·subst e; simp [hv]
   ·simp [e, h t]
theorem HR.ext {st st' : St} {w : World} (h : HR ρ st w) (hn : st.next ≤ st'.next) (hg : ∀ b o, st'.heap.get b = some o → st.heap.get b = some o) (hgl : st'.gl = st.gl := by rfl) : HR ρ st' w :=
 ⟨fun b L hb => ⟨Nat.lt_of_lt_of_le (h.lt b L hb).1 hn, (h.lt b L hb).2⟩, fun b o hb => h.obj b o (hg b o hb),
  fun b b' o o' L L' h1 h2 => h.inj b b' o o' L L' (hg _ _ h1) (hg _ _ h2), h.mem, (fun a i v hv b o L h1 => h.sep a i v hv b o L (hg _ _ h1)), by rw [hgl]; exact h.glob⟩
theorem Goes.ext {ρ0 : Names} {st0 st st' : St} {w0 w : World} (g : Goes ρ0 st0 w0 ρ st w) (hn : st.next ≤ st'.next) (hg : ∀ b o, st'.heap.get b = some o → st.heap.get b = some o) : Goes ρ0 st0 w0 ρ st' w :=
 ⟨g.le, Nat.le_trans g.next hn, g.fresh, g.size, fun b o L hb => g.img b o L (hg b o hb), g.same, g.os, g.tape, g.output, g.drawn, g.grew⟩
theorem HR.frame {ρ' : Names} {F A A' F' : St} {w w' : World} (hF : HR ρ F w) (hA : ∀ b o, A.heap.get b = some o → F.heap.get b = some o) (hn : A.next = F.next) (g : Goes ρ A w ρ' A' w') (hA' : HR ρ' A' w') (hn' : F'.next = A'.next)
  (hF' : ∀ b o, F'.heap.get b = some o → A'.heap.get b = some o ∨ (F.heap.get b = some o ∧ A.heap.get b = none)) (hgl : F'.gl = A'.gl := by rfl) : HR ρ' F' w' ∧ Goes ρ F w ρ' F' w' := by
 have old : ∀ b o, F.heap.get b = some o → ∃ K, ρ b = some K ∧ ρ' b = some K ∧ OR ρ K o w.heap[K.blk]? ∧ K.blk < w.heap.size := fun b o hb => by
  obtain ⟨K, hK, hO⟩ := hF.obj b o hb
  exact ⟨K, hK, g.le _ _ hK, hO, (hF.lt _ _ hK).2⟩
 have out : ∀ b o K, F.heap.get b = some o → A.heap.get b = none → ρ b = some K → ∀ b1 o1 L1, A.heap.get b1 = some o1 → ρ b1 = some L1 → L1.blk ≠ K.blk := by
  intro b o K hb hn hK b1 o1 L1 h1 hL1 he
  have := hF.inj _ _ _ _ _ _ (hA _ _ h1) hb hL1 hK he
  subst this
  rw [hn] at h1; cases h1
 have hsep : ∀ a i v, ρ'.mem a i = some v → ∀ b o L, F'.heap.get b = some o → ρ' b = some L → L.blk = a → o = .spare ∧ i < L.off := by
  intro a i v hv b o L hb hL he
  rcases hF' b o hb with h | ⟨h, hnA⟩
  ·exact hA'.sep a i v hv b o L h hL he
  ·obtain ⟨K, k1, k2, k3, k4⟩ := old b o h
   rw [hL] at k2; injection k2 with k2; subst k2
   rcases g.grew a i v hv with hv' | hge | ⟨b1, o1, L1, h1, hL1, he1⟩
   ·exact hF.sep a i v hv' b o _ h k1 he
   ·omega
   ·exact absurd (he1.trans he.symm) (out b o _ h hnA k1 b1 o1 L1 h1 hL1)
 refine ⟨⟨?_, ?_, ?_, hA'.mem, hsep, by rw [hgl]; exact hA'.glob⟩, ⟨g.le, ?_, ?_, g.size, ?_, ?_, g.os, g.tape, g.output, g.drawn, fun a i v hv => (g.grew a i v hv).imp id (Or.imp id fun ⟨b, o, L, h1, h2, h3⟩ => ⟨b, o, L, hA _ _ h1, h2, h3⟩)⟩⟩
 ·intro b L hb; rw [hn']; exact hA'.lt b L hb
 ·intro b o hb
  rcases hF' b o hb with h | ⟨h, hnA⟩
  ·exact hA'.obj b o h
  ·obtain ⟨K, k1, k2, k3, k4⟩ := old b o h
   refine ⟨K, k2, ?_⟩
   rw [g.same K.blk k4 (fun b1 o1 L1 h1 hL1 => out b o K h hnA k1 b1 o1 L1 h1 hL1)]
   exact k3.mono g.le
 ·intro b b' o o' L L' hb hb' hL hL' he
  rcases hF' b o hb with h | ⟨h, hnA⟩ <;> rcases hF' b' o' hb' with h' | ⟨h', hnA'⟩
  ·exact hA'.inj _ _ _ _ _ _ h h' hL hL' he
  ·obtain ⟨K, k1, k2, k3, k4⟩ := old b' o' h'
   rw [hL'] at k2; injection k2 with k2; subst k2
   obtain ⟨b0, o0, L0, q1, q2, q3⟩ := g.img b o L h hL (he ▸ k4)
   exact absurd (q3.trans he) (out b' o' _ h' hnA' k1 b0 o0 L0 q1 q2)
  ·obtain ⟨K, k1, k2, k3, k4⟩ := old b o h
   rw [hL] at k2; injection k2 with k2; subst k2
   obtain ⟨b0, o0, L0, q1, q2, q3⟩ := g.img b' o' L' h' hL' (he ▸ k4)
   exact absurd (q3.trans he.symm) (out b o _ h hnA k1 b0 o0 L0 q1 q2)
  ·obtain ⟨K, k1, k2, k3, k4⟩ := old b o h
   obtain ⟨K', k1', k2', k3', k4'⟩ := old b' o' h'
   rw [hL] at k2; injection k2 with k2; subst k2
   rw [hL'] at k2'; injection k2' with k2'; subst k2'
   exact hF.inj _ _ _ _ _ _ h h' k1 k1' he
 ·rw [hn', ← hn]; exact g.next
 ·intro b L hb; rw [← hn]; exact g.fresh b L hb
 ·intro b o L hb hL hlt
  rcases hF' b o hb with h | ⟨h, hnA⟩
  ·obtain ⟨b0, o0, L0, q1, q2, q3⟩ := g.img b o L h hL hlt
   exact ⟨b0, o0, L0, hA _ _ q1, q2, q3⟩
  ·obtain ⟨K, k1, k2, k3, k4⟩ := old b o h
   rw [hL] at k2; injection k2 with k2; subst k2
   exact ⟨b, o, L, h, k1, rfl⟩
 ·intro x hx hno
  exact g.same x hx fun b o L hb hL => hno b o L (hA _ _ hb) hL
theorem HR.newAt {F : St} {w : World} (h : HR ρ F w) {name : Nat} (hn : ρ name = none) (hlt : name < F.next) (o : Ob) (L : Loc) (x : Obj) (hb : L.blk = w.heap.size)
  (ho : OR (ρ.set name L) L o (some x)) : HR (ρ.set name L) (F.put name o) (worldNew w x) := by
 have hle := Names.set_le L hn
 have old : ∀ k, k < w.heap.size → (worldNew w x).heap[k]? = w.heap[k]? := fun k hk => by
  show (w.heap.push x)[k]? = _
  rw [Array.getElem?_push, if_neg (by omega)]
 have hsz : (worldNew w x).heap.size = w.heap.size + 1 := by simp [worldNew]
 refine ⟨?_, ?_, ?_, fun a i v hv => by rw [cell_of (old a (h.mem_lt hv))]; exact h.mem _ _ _ hv, ?_, fun g l hg => let ⟨l', a, c⟩ := h.glob g l hg; ⟨l', a.mono hle, fun i v hv => hle.mem _ _ _ (c i v hv)⟩⟩
 rotate_right
 ·intro a i v hv b o' K hg hK he
  change (F.heap.set name o).get b = some o' at hg
  rw [Tr.get_set] at hg
  rcases Names.set_inv hK with ⟨e1, e2⟩ | ⟨n1, k1⟩
  ·have := h.mem_lt (show ρ.mem a i = some v from hv); rw [e2, hb] at he; omega
  ·rw [if_neg n1] at hg
   exact h.sep _ _ _ hv _ _ _ hg k1 he
 ·intro b K hK
  rw [hsz]
  rcases Names.set_inv hK with ⟨rfl, rfl⟩ | ⟨_, hK⟩
  ·exact ⟨hlt, by omega⟩
  ·have := h.lt _ _ hK; exact ⟨this.1, by omega⟩
 ·intro b o' hb'
  change (F.heap.set name o).get b = some o' at hb'
  rw [Tr.get_set] at hb'
  by_cases e : b = name
  ·rw [if_pos e] at hb'
   injection hb' with hb'; subst hb'; subst e
   refine ⟨L, Names.set_same _ _ _, ?_⟩
   rw [hb, show (worldNew w x).heap[w.heap.size]? = some x by show (w.heap.push x)[w.heap.size]? = _; simp]
   exact ho
  ·rw [if_neg e] at hb'
   obtain ⟨K, hK, hO⟩ := h.obj _ _ hb'
   refine ⟨K, hle _ _ hK, ?_⟩
   rw [old _ (h.lt _ _ hK).2]
   exact hO.mono hle
 ·intro b b' o1 o2 K K' h1 h2 hK hK' he
  change (F.heap.set name o).get b = some o1 at h1
  change (F.heap.set name o).get b' = some o2 at h2
  rw [Tr.get_set] at h1 h2
  rcases Names.set_inv hK with ⟨e1, e2⟩ | ⟨n1, k1⟩
  ·rcases Names.set_inv hK' with ⟨e3, e4⟩ | ⟨n2, k2⟩
   ·rw [e1, e3]
   ·have := (h.lt _ _ k2).2; rw [e2, hb] at he; omega
  ·rcases Names.set_inv hK' with ⟨e3, e4⟩ | ⟨n2, k2⟩
   ·have := (h.lt _ _ k1).2; rw [e4, hb] at he; omega
   ·rw [if_neg n1] at h1; rw [if_neg n2] at h2
    exact h.inj _ _ _ _ _ _ h1 h2 k1 k2 he
theorem Goes.newAt {ρ0 : Names} {st0 F : St} {w0 w : World} (g : Goes ρ0 st0 w0 ρ F w) {name : Nat} (h1 : st0.next ≤ name) (hn : ρ name = none) (o : Ob) (L : Loc) (x : Obj) (hb : L.blk = w.heap.size) :
  Goes ρ0 st0 w0 (ρ.set name L) (F.put name o) (worldNew w x) := by
 have hsz : (worldNew w x).heap.size = w.heap.size + 1 := by simp [worldNew]
 refine ⟨Names.le_trans g.le (Names.set_le L hn), g.next, ?_, by have := g.size; omega, ?_, ?_, g.os, g.tape, g.output, g.drawn, fun a i v hv => g.grew a i v hv⟩
 ·intro b K hK
  rcases Names.set_inv hK with ⟨rfl, rfl⟩ | ⟨_, hK⟩
  ·exact .inr ⟨h1, fun k hk => by rw [g.le _ _ hk] at hn; cases hn⟩
  ·exact g.fresh b K hK
 ·intro b o' K hb' hK hlt
  rcases Names.set_inv hK with ⟨rfl, rfl⟩ | ⟨n1, hK⟩
  ·have := g.size; omega
  ·change (F.heap.set name o).get b = some o' at hb'
   rw [Tr.get_set, if_neg n1] at hb'
   exact g.img b o' K hb' hK hlt
 ·intro k hk hno
  rw [← g.same k hk hno]
  show (w.heap.push x)[k]? = _
  have := g.size
  rw [Array.getElem?_push, if_neg (by omega)]
theorem exists_add (st : St) (base : Nat) (ob : Nat → Ob) (Q : Nat → Prop) : ∀ n, ∃ F : St, (F.next = st.next ∧ F.gl = st.gl) ∧ (∀ j, j < n → Q j → F.heap.get (base + j) = some (ob j)) ∧ ∀ b, (∀ j, j < n → Q j → b ≠ base + j) → F.heap.get b = st.heap.get b
 | 0 => ⟨st, ⟨rfl, rfl⟩, fun j h => absurd h (Nat.not_lt_zero _), fun _ _ => rfl⟩
 | n + 1 => by
  obtain ⟨F, h1, h2, h3⟩ := exists_add st base ob Q n
  by_cases q : Q n
  ·refine ⟨F.put (base + n) (ob n), h1, fun j hj hq => ?_, fun b hb => ?_⟩
   ·show (F.heap.set (base + n) (ob n)).get _ = _
    rw [Tr.get_set]
    by_cases e : j = n
    ·subst e; simp
    ·rw [if_neg (by omega)]; exact h2 j (by omega) hq
   ·show (F.heap.set (base + n) (ob n)).get _ = _
    rw [Tr.get_set, if_neg (hb n (by omega) q)]
    exact h3 b fun j hj hq => hb j (by omega) hq
  ·refine ⟨F, h1, fun j hj hq => ?_, fun b hb => h3 b fun j hj hq => hb j (by omega) hq⟩
   have : j ≠ n := fun e => q (e ▸ hq)
   exact h2 j (by omega) hq
theorem addP_next : ∀ (l : List (Nat × Ob)) (st : St), (addP st l).next = st.next
 | [], st => rfl
 | p :: l, st => addP_next l (st.put p.1 p.2)
theorem addP_gl : ∀ (l : List (Nat × Ob)) (st : St), (addP st l).gl = st.gl
 | [], st => rfl
 | p :: l, st => addP_gl l (st.put p.1 p.2)
theorem addP_get : ∀ (l : List (Nat × Ob)) (st : St), (∀ p ∈ l, ∀ q ∈ l, p.1 = q.1 → p.2 = q.2) →
  (∀ p ∈ l, (addP st l).heap.get p.1 = some p.2) ∧ ∀ b, (∀ p ∈ l, p.1 ≠ b) → (addP st l).heap.get b = st.heap.get b
 | [], st, _ => ⟨fun p h => by simp at h, fun _ _ => rfl⟩
 | p :: l, st, hf => by
  obtain ⟨h1, h2⟩ := addP_get l (st.put p.1 p.2) fun a ha b hb => hf a (by simp [ha]) b (by simp [hb])
  have put : ∀ b, (st.put p.1 p.2).heap.get b = if b = p.1 then some p.2 else st.heap.get b := fun b => Tr.get_set ..
  refine ⟨fun q hq => ?_, fun b hb => ?_⟩
  ·show (addP (st.put p.1 p.2) l).heap.get q.1 = _
   rcases List.mem_cons.1 hq with rfl | hq
   ·by_cases c : ∃ r ∈ l, r.1 = q.1
    ·obtain ⟨r, hr, e⟩ := c
     have k := h1 r hr
     rw [e] at k
     rw [k, hf r (by simp [hr]) q (by simp) e]
    ·rw [h2 q.1 fun r hr e => c ⟨r, hr, e⟩, put, if_pos rfl]
   ·exact h1 q hq
  ·show (addP (st.put p.1 p.2) l).heap.get b = _
   rw [h2 b fun r hr => hb r (by simp [hr]), put, if_neg (fun e => hb p (by simp) e.symm)]
theorem part2_mem {base m : Nat} : ∀ {l : List (Nat × Ob)} {p : Nat × Ob}, (p ∈ (part2 base m l).yes ↔ p ∈ l ∧ tb m (p.1 - base) = true) ∧ (p ∈ (part2 base m l).no ↔ p ∈ l ∧ tb m (p.1 - base) = false)
 | [], p => by simp [part2]
 | q :: l, p => by
  have ih := part2_mem (base := base) (m := m) (l := l) (p := p)
  show (p ∈ (ifb (tb m (Nat.sub q.1 base)) (⟨q :: (part2 base m l).yes, (part2 base m l).no⟩ : Parted) ⟨(part2 base m l).yes, q :: (part2 base m l).no⟩).yes ↔ _) ∧ (p ∈ (ifb (tb m (Nat.sub q.1 base)) (⟨q :: (part2 base m l).yes, (part2 base m l).no⟩ : Parted) ⟨(part2 base m l).yes, q :: (part2 base m l).no⟩).no ↔ _)
  have e : Nat.sub q.1 base = q.1 - base := rfl
  rw [e]
  cases hb : tb m (q.1 - base) with
  | true =>
   simp only [ifb_true, List.mem_cons]
   rw [ih.1, ih.2]
   constructor
   ·constructor
    ·rintro (rfl | ⟨a, b⟩)
     ·exact ⟨.inl rfl, hb⟩
     ·exact ⟨.inr a, b⟩
    ·rintro ⟨rfl | a, b⟩
     ·exact .inl rfl
     ·exact .inr ⟨a, b⟩
   ·constructor
    ·rintro ⟨a, b⟩; exact ⟨.inr a, b⟩
    ·rintro ⟨rfl | a, b⟩
     ·rw [hb] at b; cases b
     ·exact ⟨a, b⟩
  | false =>
   simp only [ifb_false, List.mem_cons]
   rw [ih.1, ih.2]
   constructor
   ·constructor
    ·rintro ⟨a, b⟩; exact ⟨.inr a, b⟩
    ·rintro ⟨rfl | a, b⟩
     ·rw [hb] at b; cases b
     ·exact ⟨a, b⟩
   ·constructor
    ·rintro (rfl | ⟨a, b⟩)
     ·exact ⟨.inl rfl, hb⟩
     ·exact ⟨.inr a, b⟩
    ·rintro ⟨rfl | a, b⟩
     ·exact .inl rfl
     ·exact .inr ⟨a, b⟩
end Go.Det
namespace Go.Det
variable {P : Program} {ρ : Names}
theorem ifb_and {b x : Bool} : ifb b x false = true ↔ b = true ∧ x = true := by cases b <;> simp
theorem tb_eq (m i : Nat) : tb m i = m.testBit i := by
 have e : Nat.land (Nat.shiftRight m i) 1 = (m >>> i) % 2 := Nat.and_one_is_mod _
 unfold tb
 rw [e, Nat.testBit_eq_decide_div_mod_eq, Nat.shiftRight_eq_div_pow]
 by_cases h : m / 2 ^ i % 2 = 1
 ·simp [h]
 ·simp [h]; exact beq_f h
theorem tb_or (a b i : Nat) : tb (Nat.lor a b) i = (tb a i || tb b i) := by
 simp only [tb_eq]
 exact Nat.testBit_or a b i
theorem tb_one (e j : Nat) : tb (Nat.shiftLeft 1 e) j = true ↔ j = e := by
 have h : Nat.shiftLeft 1 e = 2 ^ e := Nat.one_shiftLeft e
 rw [tb_eq, h, Nat.testBit_two_pow]
 simp [eq_comm]
theorem tb_zero (j : Nat) : tb 0 j = false := by simp [tb_eq]
theorem mask_spec {bef : List Nat} : ∀ {l : List Edge} {j : Nat}, tb (mask bef l) j = true → ∃ e ∈ l, bindE e = true ∧ (j = e.on ∨ ∃ m, nth e.on bef = some m ∧ tb m j = true)
 | [], j, h => by rw [mask, tb_zero] at h; cases h
 | e :: l, j, h => by
  have ih := fun h => mask_spec (bef := bef) (l := l) (j := j) h
  have tail : (∃ e ∈ l, bindE e = true ∧ (j = e.on ∨ ∃ m, nth e.on bef = some m ∧ tb m j = true)) → ∃ e' ∈ e :: l, bindE e' = true ∧ (j = e'.on ∨ ∃ m, nth e'.on bef = some m ∧ tb m j = true) :=
   fun ⟨e', a, b⟩ => ⟨e', List.mem_cons_of_mem _ a, b⟩
  rw [mask] at h
  cases hb : bindE e with
  | false => rw [hb, ifb_false] at h; exact tail (ih h)
  | true =>
   rw [hb, ifb_true, tb_or, tb_or, Bool.or_eq_true, Bool.or_eq_true] at h
   rcases h with (h | h) | h
   ·exact ⟨e, by simp, hb, .inl ((tb_one _ _).1 h)⟩
   ·split at h
    ·rename_i m hm; exact ⟨e, by simp, hb, .inr ⟨m, hm, h⟩⟩
    ·rw [tb_zero] at h; cases h
   ·exact tail (ih h)
theorem befs_prefix : ∀ (l : List Oper) (bef : List Nat), ∃ r, befs bef l = bef ++ r ∧ r.length = l.length
 | [], bef => ⟨[], by simp [befs], rfl⟩
 | o :: l, bef => by
  obtain ⟨r, h1, h2⟩ := befs_prefix l (bef ++ [mask bef o.after.toList])
  exact ⟨mask bef o.after.toList :: r, by rw [befs, h1]; simp, by simp [h2]⟩
theorem befs_get : ∀ (l : List Oper) (bef : List Nat) (k : Nat) (o : Oper), l[k]? = some o → (befs bef l)[bef.length + k]? = some (mask ((befs bef l).take (bef.length + k)) o.after.toList)
 | [], bef, k, o, h => by simp at h
 | x :: l, bef, 0, o, h => by
  simp at h; subst h
  obtain ⟨r, h1, h2⟩ := befs_prefix l (bef ++ [mask bef x.after.toList])
  rw [befs, h1]
  simp
 | x :: l, bef, k + 1, o, h => by
  have := befs_get l (bef ++ [mask bef x.after.toList]) k o (by simpa using h)
  rw [befs]
  simp only [List.length_append, List.length_singleton] at this
  rw [show bef.length + (k + 1) = bef.length + 1 + k by omega]
  exact this
theorem bef_closed {os : List Oper} {i : Nat} {o : Oper} {m j : Nat} (ho : os[i]? = some o) (hm : nth i (befs [] os) = some m) (h : tb m j = true) :
  ∃ e ∈ o.after.toList, bindE e = true ∧ (j = e.on ∨ ∃ m', nth e.on (befs [] os) = some m' ∧ tb m' j = true) := by
 have := befs_get os [] i o ho
 simp only [List.length_nil, Nat.zero_add] at this
 rw [nth_eq, this] at hm
 injection hm with hm; subst hm
 obtain ⟨e, h1, h2, h3⟩ := mask_spec h
 refine ⟨e, h1, h2, ?_⟩
 rcases h3 with h3 | ⟨m', h3, h4⟩
 ·exact .inl h3
 ·refine .inr ⟨m', ?_, h4⟩
  rw [nth_eq] at h3 ⊢
  rw [List.getElem?_take] at h3
  split at h3
  ·exact h3
  ·cases h3
theorem backs_spec {i : Nat} : ∀ {l : List Edge}, backs i l = true → ∀ e ∈ l, bindE e = true → e.on < i
 | e :: l, h, e', he, hb => by
  rw [backs] at h
  rcases List.mem_cons.1 he with rfl | he
  ·rw [hb, ifb_true] at h
   cases c : Nat.ble (Nat.succ e'.on) i with
   | true => exact of_ble c
   | false => rw [c] at h; cases h
  ·have : backs i l = true := by
    cases hb' : bindE e with
    | false => rw [hb', ifb_false] at h; exact h
    | true =>
     rw [hb', ifb_true] at h
     cases c : Nat.ble (Nat.succ e.on) i with
     | true => rw [c] at h; exact h
     | false => rw [c] at h; cases h
   exact backs_spec this e' he hb
theorem pairOk_spec {ops : List Oper} {m : Nat} {y : Oper} (l : List Oper) : ∀ (i : Nat), pairOk ops m y i l = true → ∀ j x, l[j]? = some x → tb m (i + j) = true ∨ apartA ops x y = true := by
 induction l with
 | nil => intro i h j x hx; simp at hx
 | cons x l ih =>
  intro i h j z hz
  have h' : ifb (or (tb m i) (apartA ops x y)) (pairOk ops m y (Nat.succ i) l) false = true := h
  clear h
  generalize hq : apartA ops x y = q at h'
  rw [ifb_eq] at h'
  split at h'
  rotate_left
  ·cases h'
  rename_i c
  cases j with
  | zero =>
   simp at hz; subst hz
   rw [Nat.add_zero, hq]
   simpa using c
  | succ j =>
   have := ih (Nat.succ i) h' j z (by simpa using hz)
   have e : i + (j + 1) = Nat.succ i + j := by omega
   rw [e]; exact this
theorem regOkGo_spec {ops : List Oper} {bef : List Nat} : ∀ {l : List Oper} {i : Nat} {pre : List Oper}, regOkGo ops bef i pre l = true → pre.length = i → ∀ k y, l[k]? = some y →
  ∃ m, nth (i + k) bef = some m ∧ backs (i + k) y.after.toList = true ∧ ∀ j x, j < i + k → (pre ++ l)[j]? = some x → tb m j = true ∨ apartA ops x y = true
 | [], i, pre, h, hp, k, y, hy => by simp at hy
 | z :: l, i, pre, h, hp, k, y, hy => by
  rw [regOkGo] at h
  split at h
  rotate_left
  ·cases h
  rename_i m hm
  cases c : and (backs i z.after.toList) (pairOk ops m z 0 pre) with
  | false => rw [c] at h; cases h
  | true =>
   rw [c, ifb_true] at h
   simp only [Bool.and_eq_true] at c
   cases k with
   | zero =>
    simp at hy; subst hy
    refine ⟨m, hm, c.1, fun j x hj hx => ?_⟩
    have := pairOk_spec pre 0 c.2 j x (by rw [List.getElem?_append_left (by omega)] at hx; exact hx)
    simpa using this
   | succ k =>
    obtain ⟨m', h1, h2, h3⟩ := regOkGo_spec h (by simp [hp]) k y (by simpa using hy)
    refine ⟨m', ?_, ?_, ?_⟩
    ·rw [← h1]; congr 1; omega
    ·rw [← h2]; congr 1; omega
    ·intro j x hj hx
     exact h3 j x (by omega) (by simpa using hx)
theorem regOk_spec {ops : List Oper} (h : regOk ops = true) {k : Nat} {y : Oper} (hy : ops[k]? = some y) :
  ∃ m, nth k (befs [] ops) = some m ∧ backs k y.after.toList = true ∧ ∀ j x, j < k → ops[j]? = some x → tb m j = true ∨ apartA ops x y = true := by
 have := regOkGo_spec h rfl k y hy
 simpa using this
theorem hasT_iff {t : Tmp} : ∀ {l : List Tmp}, hasT t l = true ↔ t ∈ l
 | [] => by simp [hasT]
 | x :: l => by
  rw [hasT, List.mem_cons]
  cases c : Nat.beq x t with
  | true => rw [ifb_true]; simp [(of_beq c).symm]
  | false =>
   rw [ifb_false, hasT_iff]
   have : t ≠ x := fun e => by subst e; rw [beq_t rfl] at c; cases c
   simp [this]
theorem apartA_spec {ops : List Oper} {x y : Oper} (h : apartA ops x y = true) :
  (∀ d, x.dst = some d → d ∉ looks ops y) ∧ (∀ d, y.dst = some d → d ∉ looks ops x) ∧ (∀ d, x.dst = some d → y.dst ≠ some d) ∧ ¬ (isActK (kd x.op) = true ∧ isActK (kd y.op) = true) := by
 unfold apartA at h
 simp only [Bool.not_eq_true', Bool.or_eq_false_iff, Bool.and_eq_false_iff] at h
 obtain ⟨h1, h2, h3, h4⟩ := h
 refine ⟨fun d hd hm => ?_, fun d hd hm => ?_, fun d hd he => ?_, fun ⟨a, b⟩ => ?_⟩
 ·rw [hd] at h1; simp only [hits] at h1; rw [hasT_iff.2 hm] at h1; cases h1
 ·rw [hd] at h2; simp only [hits] at h2; rw [hasT_iff.2 hm] at h2; cases h2
 ·rw [hd, he] at h3; simp only [sameDst] at h3; rw [beq_t rfl] at h3; cases h3
 ·rcases h4 with h4 | h4
  ·rw [a] at h4; cases h4
  ·rw [b] at h4; cases h4
def Stp (P : Program) (r : Nat → Rec) (nt base : Nat) (ops : List Oper) (bef : List Nat) (i : Nat) (o : Oper) (e e' : DEnt) : Prop :=
 ∃ m d, nth i bef = some m ∧ wantedA e.T ops o = some e.wt ∧ ifb e.wt (drawOp P (r i) base i m e.T e.st e.pend o) (some ⟨undefA, e.st, none, e.pend⟩) = some d ∧
  putDst nt e.T o.dst d.v = some e'.T ∧ e'.st = d.st ∧ e'.pend = d.pend ∧ e.v = d.v ∧ e.ob = d.ob
theorem drawGo_data {r : Nat → Rec} {nt base : Nat} {ops : List Oper} {bef : List Nat} : ∀ {l : List Oper} {i : Nat} {T : Tr AV} {st : St} {pend : List (Nat × Ob)} {tr trf : List DEnt} {mid : Mid},
  drawGo P r nt base ops bef i l T st pend tr = some (trf, mid) → tr.length = i →
  (∀ k, k < i → trf[k]? = tr[k]?) ∧ (∃ e, trf[i]? = some e ∧ e.T = T ∧ e.st = st ∧ e.pend = pend) ∧
  (∀ k o, l[k]? = some o → ∃ e e', trf[i + k]? = some e ∧ trf[i + k + 1]? = some e' ∧ Stp P r nt base ops bef (i + k) o e e') ∧
  ∃ e, trf[i + l.length]? = some e ∧ mid = ⟨e.T, [], addP e.st e.pend⟩
 | [], i, T, st, pend, tr, trf, mid, h, hl => by
  rw [drawGo] at h
  injection h with h
  injection h with h1 h2
  subst h1; subst h2; subst hl
  refine ⟨fun k hk => by rw [List.getElem?_append_left hk], ⟨⟨T, st, true, undefA, none, pend⟩, by simp, rfl, rfl, rfl⟩, fun k o h => by simp at h, ⟨T, st, true, undefA, none, pend⟩, by simp, rfl⟩
 | o :: l, i, T, st, pend, tr, trf, mid, h, hl => by
  rw [drawGo] at h
  simp only [ob_some] at h
  obtain ⟨m, h1, wt, h2, d, h3, T', h4, h5⟩ := h
  obtain ⟨k1, ⟨e1, k2, k3, k4, k5⟩, k6, e2, k7, k8⟩ := drawGo_data h5 (by simp [hl])
  have hi : trf[i]? = some ⟨T, st, wt, d.v, d.ob, pend⟩ := by
   rw [k1 i (Nat.lt_succ_self i)]
   subst hl
   simp
  refine ⟨fun k hk => ?_, ⟨_, hi, rfl, rfl, rfl⟩, fun k z hz => ?_, e2, ?_, k8⟩
  ·rw [k1 k (Nat.lt_succ_of_lt hk), List.getElem?_append_left (by omega)]
  ·cases k with
   | zero =>
    simp at hz; subst hz
    exact ⟨_, e1, hi, k2, m, d, h1, h2, h3, by rw [k3]; exact h4, k4, k5, rfl, rfl⟩
   | succ k =>
    obtain ⟨e, e', q1, q2, q3⟩ := k6 k z (by simpa using hz)
    rw [show Nat.succ i + k = i + (k + 1) by omega] at q1 q2 q3
    exact ⟨e, e', q1, q2, q3⟩
  ·rw [← k7]; congr 1; simp; omega
theorem readsOk1_cons {bef : List Nat} {rd : Nat} {o : Oper} {e : DEnt} {a : Nat} {x : Oper} {l : List Oper} {ea : DEnt} {tr : List DEnt} : readsOk1 P bef rd o e a (x :: l) (ea :: tr) =
    ifb (ifb (isActK (kd x.op))
      (ifb (Nat.ble (Nat.succ a) rd)
        (match nth rd bef with | some m => ifb (tb m a) true (readSame P e.T ea.st o.op e.v) | none => false)
        (match nth a bef with
         | some m => ifb (tb m rd) true (match tr with | e2 :: _ => readSame P e.T e2.st o.op e.v | [] => false)
         | none => false))
      true) (readsOk1 P bef rd o e (Nat.succ a) l tr) false := rfl
theorem readsOk1_spec {bef : List Nat} {rd : Nat} {o : Oper} {e : DEnt} : ∀ {l : List Oper} {tr : List DEnt} {a : Nat}, readsOk1 P bef rd o e a l tr = true → ∀ j x, l[j]? = some x → isActK (kd x.op) = true →
  (a + j < rd → (∃ m, nth rd bef = some m ∧ tb m (a + j) = true) ∨ ∃ ea, tr[j]? = some ea ∧ readSame P e.T ea.st o.op e.v = true) ∧
  (rd ≤ a + j → (∃ m, nth (a + j) bef = some m ∧ tb m rd = true) ∨ ∃ ea, tr[j + 1]? = some ea ∧ readSame P e.T ea.st o.op e.v = true)
 | [], tr, a, h, j, x, hx, hk => by simp at hx
 | y :: l, [], a, h, j, x, hx, hk => by simp [readsOk1] at h
 | y :: l, ea :: tr, a, h, j, x, hx, hk => by
  rw [readsOk1_cons] at h
  cases j with
  | succ j =>
   have h' : readsOk1 P bef rd o e (Nat.succ a) l tr = true := by
    exact (ifb_and.1 h).2
   have := readsOk1_spec h' j x (by simpa using hx) hk
   rw [show Nat.succ a + j = a + (j + 1) by omega] at this
   simpa using this
  | zero =>
   simp at hx; subst hx
   have hc := (ifb_and.1 h).1
   rw [hk, ifb_true] at hc
   rw [Nat.add_zero]
   constructor
   ·intro hlt
    rw [ble_t (show Nat.succ a ≤ rd from hlt), ifb_true] at hc
    split at hc
    ·rename_i m hm
     cases c : tb m a with
     | true => exact .inl ⟨m, hm, c⟩
     | false => rw [c, ifb_false] at hc; exact .inr ⟨ea, by simp, hc⟩
    ·cases hc
   ·intro hge
    have hb : Nat.ble (Nat.succ a) rd = false := ble_f (by omega)
    rw [hb, ifb_false] at hc
    split at hc
    ·rename_i m hm
     cases c : tb m rd with
     | true => exact .inl ⟨m, hm, c⟩
     | false =>
      rw [c, ifb_false] at hc
      split at hc
      ·rename_i e2 t; exact .inr ⟨e2, by simp, hc⟩
      ·cases hc
    ·cases hc
theorem readsOk_spec {bef : List Nat} {ops : List Oper} {tr : List DEnt} : ∀ {l : List Oper} {t : List DEnt} {i : Nat}, readsOk P bef ops tr i l t = true → ∀ j o e, l[j]? = some o → t[j]? = some e → isReadK (kd o.op) = true → e.wt = true → readsOk1 P bef (i + j) o e 0 ops tr = true
 | [], t, i, h, j, o, e, ho, he, hk, hw => by simp at ho
 | x :: l, [], i, h, j, o, e, ho, he, hk, hw => by simp at he
 | x :: l, y :: t, i, h, j, o, e, ho, he, hk, hw => by
  rw [readsOk] at h
  obtain ⟨hc, h⟩ := ifb_and.1 h
  cases j with
  | succ j =>
   have := readsOk_spec h j o e (by simpa using ho) (by simpa using he) hk hw
   rwa [show Nat.succ i + j = i + (j + 1) by omega] at this
  | zero =>
   simp at ho he; subst ho; subst he
   rw [hk, hw] at hc
   simpa using hc
end Go.Det
namespace Go.Det
variable {P : Program}
theorem eqOwn_eq {a b : Option Nat} (h : eqOwn a b = true) : a = b := by
 cases a <;> cases b <;> simp only [eqOwn, Bool.false_eq_true, Nat.beq_eq] at h
 ·rfl
 ·rw [h]
mutual
theorem AV.beq_eq : ∀ {u v : AV}, AV.beq u v = true → u = v
 | .bool a, v, h => by cases v <;> simp only [AV.beq, Bool.false_eq_true, eqBool_eq, beq_iff_eq] at h; rw [h]
 | .int j a, v, h => by cases v <;> simp only [AV.beq, Bool.false_eq_true, ifb_and, eqKind_iff, eqInt_iff] at h; rw [h.1, h.2]
 | .str a, v, h => by
  cases v <;> simp only [AV.beq, Bool.false_eq_true, eqBytes_eq, beq_iff_eq] at h
  congr 1
  apply ByteArray.ext
  exact Array.ext' h
 | .ptr a b, v, h => by cases v <;> simp only [AV.beq, Bool.false_eq_true, ifb_and, Nat.beq_eq] at h; rw [h.1, h.2]
 | .nilPtr, v, h => by cases v <;> simp only [AV.beq, Bool.false_eq_true] at h; rfl
 | .slice a b c d e f, v, h => by
  cases v <;> simp only [AV.beq, Bool.false_eq_true, ifb_and, Nat.beq_eq, eqBool_eq, beq_iff_eq] at h
  obtain ⟨rfl, rfl, rfl, rfl, rfl, rfl⟩ := h
  rfl
 | .nilSlice, v, h => by cases v <;> simp only [AV.beq, Bool.false_eq_true] at h; rfl
 | .map a, v, h => by cases v <;> simp only [AV.beq, Bool.false_eq_true, Nat.beq_eq] at h; rw [h]
 | .nilMap, v, h => by cases v <;> simp only [AV.beq, Bool.false_eq_true] at h; rfl
 | .func f a b, v, h => by
  cases v <;> simp only [AV.beq, Bool.false_eq_true, ifb_and, Nat.beq_eq] at h
  obtain ⟨rfl, h1, h2⟩ := h
  rw [AV.beqs_eq h1, AV.beqs_eq h2]
 | .yield a, v, h => by cases v <;> simp only [AV.beq, Bool.false_eq_true, Nat.beq_eq] at h; rw [h]
 | .nilFunc, v, h => by cases v <;> simp only [AV.beq, Bool.false_eq_true] at h; rfl
 | .nilIface, v, h => by cases v <;> simp only [AV.beq, Bool.false_eq_true] at h; rfl
 | .agg a, v, h => by
  cases v <;> simp only [AV.beq, Bool.false_eq_true] at h
  rw [AV.beqs_eq h]
 | .tuple a, v, h => by
  cases v <;> simp only [AV.beq, Bool.false_eq_true] at h
  rw [AV.beqs_eq h]
 | .vs a b c d e f, v, h => by
  cases v <;> simp only [AV.beq, Bool.false_eq_true, ifb_and, Nat.beq_eq, eqBool_eq, beq_iff_eq] at h
  obtain ⟨h1, rfl, rfl, rfl, rfl, h2⟩ := h
  rw [AV.beqs_eq h1, eqOwn_eq h2]
 | .vptr a b, v, h => by
  cases v <;> simp only [AV.beq, Bool.false_eq_true, ifb_and, Nat.beq_eq] at h
  obtain ⟨h1, rfl⟩ := h
  rw [AV.beqs_eq h1]
 | .iface a b, v, h => by
  cases v <;> simp only [AV.beq, Bool.false_eq_true, ifb_and, Nat.beq_eq] at h
  rw [h.1, AV.beq_eq h.2]
 | .gptr a b, v, h => by cases v <;> simp only [AV.beq, Bool.false_eq_true, ifb_and, Nat.beq_eq] at h; rw [h.1, h.2]
theorem AV.beqs_eq : ∀ {u v : List AV}, AV.beqs u v = true → u = v
 | [], [], h => rfl
 | [], _ :: _, h => absurd h (by simp [AV.beqs])
 | _ :: _, [], h => absurd h (by simp [AV.beqs])
 | a :: x, b :: y, h => by
  simp only [AV.beqs, ifb_and] at h
  rw [AV.beq_eq h.1, AV.beqs_eq h.2]
end
theorem readSame_spec {T : Tr AV} {st : St} {op : Op} {v : AV} (h : readSame P T st op v = true) : ∃ st', aop P T st op = some (.val v st') := by
 unfold readSame at h
 split at h
 ·rename_i u st' hu; rw [AV.beq_eq h] at hu; exact ⟨st', hu⟩
 ·cases h
def ActOk (r : Rec) (st : St) (v : AV) (st1 : St) : OpR → Prop
 | .val u s => u = v ∧ s = st1
 | .call f args => r.call f args st = some (v, st1)
 | .yld l args => yieldA r l args st = some (v, st1)
 | .dfr _ _ => False
theorem act_sound {ρ : Names} {r : Rec} (hc : CodeOk P r) (hk : CallOk P r.call) {T : Tr AV} {st st1 : St} {v : AV} {o : Oper} {x : OpR} (h1 : aop P T st o.op = some x)
  (h2 : ActOk r st v st1 x) {w : World} {tm : Array Value} {df : List Deferred}
  (hH : HR ρ st w) (hT : ∀ x a, opd T x = some a → VR ρ a (evT tm x)) {b : Frame} {ops : Array Oper} {i : Nat} (ho : ops[i]? = some o) (hw : Region.wanted o (yielded ops tm) = true) (rest : List Nat) (k : List Item) (cs : List Frame) :
  ∃ ρ' w' v', Goes ρ st w ρ' st1 w' ∧ HR ρ' st1 w' ∧ VR ρ' v v' ∧
   Steps P (lone (on b tm df (.inRegion ops (i :: rest) :: k)) cs w) (lone (on b (putC tm o.dst v') df (.inRegion ops rest :: k)) cs w') := by
 have hA := aop_sound (P := P) hT hH h1
 have hfin := fun v => finish_on b tm df ops i rest k v
 simp only [ho, Option.bind_some] at hfin
 have notDefer : (∀ f asl, x ≠ .dfr f asl) → b.roundOf = none ∨ ∀ c, o.op ≠ .defer c := fun hx => .inr fun c hop => by
  rw [hop] at h1
  simp only [aop] at h1
  split at h1
  ·simp only [ob_some] at h1
   obtain ⟨r1, _, h4⟩ := h1
   split at h4
   ·injection h4 with h4; exact hx _ _ h4.symm
   ·cases h4
  ·cases h1
 cases x with
 | val u s =>
  obtain ⟨rfl, rfl⟩ := h2
  have hg := stepG_on (P := P) (b := b) (df := df) (k := k) (cs := cs) (w := w) (rest := rest) ho hw (notDefer (fun _ _ => by simp))
  obtain ⟨ρ', w', v', hr, g, H, V⟩ := hA
  refine ⟨ρ', w', v', g, H, V, .one (step_lone_go ?_)⟩
  rw [hg, ← hfin]
  rcases hr with hr | ⟨hr, rfl⟩
  ·exact ap_value hr
  ·exact ap_skip hr
 | call f args =>
  have hg := stepG_on (P := P) (b := b) (df := df) (k := k) (cs := cs) (w := w) (rest := rest) ho hw (notDefer (fun _ _ => by simp))
  obtain ⟨args', ha, hr⟩ := hA
  obtain ⟨hen, hcall⟩ := hk _ _ _ _ _ h2
  rw [hen] at hr
  obtain ⟨ρ', w', v', fr', g, H, V, hs, hl⟩ := hcall ρ w args' (on b tm df (.inRegion ops (i :: rest) :: k) :: cs) hH ha
  have henter : step P (lone (on b tm df (.inRegion ops (i :: rest) :: k)) cs w) = .next (lone (Frame.enter P f ⟨args'⟩ .normal) (on b tm df (.inRegion ops (i :: rest) :: k) :: cs) w) :=
   step_lone_go (by rw [hg]; exact ap_enter hr (by simp [on]))
  refine ⟨ρ', w', v', g, H, V, .head henter (hs.trans (.one ?_))⟩
  rw [← hfin]; exact st_leave hl
 | yld l args =>
  have hg := stepG_on (P := P) (b := b) (df := df) (k := k) (cs := cs) (w := w) (rest := rest) ho hw (notDefer (fun _ _ => by simp))
  obtain ⟨L, args', hL, ha, hr⟩ := hA
  obtain ⟨f, tmps, asl, body, hy, hround⟩ := yield_sound hc h2 hH hL ha
  rw [hy] at hr
  obtain ⟨ρ', w', v', g, H, V, hs⟩ := hround (on b tm df (.inRegion ops (i :: rest) :: k)) cs
  have henter : step P (lone (on b tm df (.inRegion ops (i :: rest) :: k)) cs w) = .next (lone (Frame.round L.blk f tmps asl body .normal) (on b tm df (.inRegion ops (i :: rest) :: k) :: cs) w) :=
   step_lone_go (by rw [hg]; exact ap_round hr)
  refine ⟨ρ', w', v', g, H, V, .head henter ?_⟩
  rw [← hfin]; exact hs
 | dfr f args => exact h2.elim
structure Reg (P : Program) (r : Nat → Rec) (nt base : Nat) (ops : Array Oper) (E : Nat → DEnt) (M : Nat → Nat) : Prop where
 want : ∀ i o, ops[i]? = some o → wantedA (E i).T ops.toList o = some (E i).wt
 op : ∀ i o, ops[i]? = some o → ∃ d, ifb (E i).wt (drawOp P (r i) base i (M i) (E i).T (E i).st (E i).pend o) (some ⟨undefA, (E i).st, none, (E i).pend⟩) = some d ∧
  (E (i + 1)).st = d.st ∧ (E (i + 1)).pend = d.pend ∧ (E i).v = d.v ∧ (E i).ob = d.ob
 put : ∀ i o, ops[i]? = some o → putDst nt (E i).T o.dst (E i).v = some (E (i + 1)).T
 clo : ∀ i o j, ops[i]? = some o → tb (M i) j = true → ∃ e ∈ o.after.toList, bindE e = true ∧ (j = e.on ∨ tb (M e.on) j = true)
 bck : ∀ i o, ops[i]? = some o → ∀ e ∈ o.after.toList, bindE e = true → e.on < i
 pair : ∀ i k x y, i < k → ops[i]? = some x → ops[k]? = some y → tb (M k) i = true ∨ apartA ops.toList x y = true
 rds : ∀ i o, ops[i]? = some o → isReadK (kd o.op) = true → (E i).wt = true → ∀ a x, ops[a]? = some x → isActK (kd x.op) = true →
  (a < i → tb (M i) a = true ∨ readSame P (E i).T (E a).st o.op (E i).v = true) ∧ (i ≤ a → tb (M a) i = true ∨ readSame P (E i).T (E (a + 1)).st o.op (E i).v = true)
 pend0 : (E 0).pend = []
def IsAct (ops : Array Oper) (i : Nat) : Prop := ∃ o, ops[i]? = some o ∧ isActK (kd o.op) = true
def IsFr (ops : Array Oper) (E : Nat → DEnt) (i : Nat) : Prop := ∃ o, ops[i]? = some o ∧ freshK (kd o.op) = true ∧ (E i).wt = true
def Abs (ops : Array Oper) (E : Nat → DEnt) (M : Nat → Nat) (j a : Nat) : Prop := ∃ b, j < b ∧ b < a ∧ IsAct ops b ∧ (E b).wt = true ∧ tb (M b) j = true
def objOf (E : Nat → DEnt) (j : Nat) : Ob := ((E j).ob).getD (.deferred true)
section
variable {r : Nat → Rec} {nt base : Nat} {ops : Array Oper} {E : Nat → DEnt} {M : Nat → Nat}
theorem kd_pure_of {k : Kd} (h1 : isActK k ≠ true) (h2 : isReadK k ≠ true) (h3 : freshK k ≠ true) : k = .pure := by cases k <;> simp [isActK, isReadK, freshK] at h1 h2 h3 ⊢
theorem Reg.still (h : Reg P r nt base ops E M) {i : Nat} {o : Oper} (ho : ops[i]? = some o) (hw : (E i).wt = true) (h1 : isActK (kd o.op) ≠ true) (h3 : freshK (kd o.op) ≠ true) :
  (∃ st', aop P (E i).T (E i).st o.op = some (.val (E i).v st')) ∧ (E (i + 1)).st = (E i).st ∧ (E (i + 1)).pend = (E i).pend := by
 obtain ⟨d, hd, e1, e2, e3, e4⟩ := h.op i o ho
 rw [hw, ifb_true] at hd
 unfold drawOp at hd
 split at hd
 ·simp only [ob_some] at hd
  obtain ⟨x, k1, k2⟩ := hd
  split at k2
  ·injection k2 with k2; subst k2; exact ⟨⟨_, by rw [k1, e3]⟩, e1, e2⟩
  ·cases k2
 ·simp only [ob_some] at hd
  obtain ⟨x, k1, k2⟩ := hd
  split at k2
  ·injection k2 with k2; subst k2; exact ⟨⟨_, by rw [k1, e3]⟩, e1, e2⟩
  ·cases k2
 ·rename_i hk; rw [hk] at h3; exact absurd rfl h3
 ·rename_i hk; rw [hk] at h1; exact absurd rfl h1
theorem Reg.fresh (h : Reg P r nt base ops E M) {i : Nat} {o : Oper} (ho : ops[i]? = some o) (hw : (E i).wt = true) (h3 : freshK (kd o.op) = true) :
  freshA P (E i).st.vm (E i).T (base + i) o.op = some ((E i).v, objOf E i) ∧ (E (i + 1)).st = (E i).st ∧ (E (i + 1)).pend = (base + i, objOf E i) :: (E i).pend := by
 obtain ⟨d, hd, e1, e2, e3, e4⟩ := h.op i o ho
 rw [hw, ifb_true] at hd
 unfold drawOp at hd
 split at hd
 ·rename_i hk; rw [hk] at h3; cases h3
 ·rename_i hk; rw [hk] at h3; cases h3
 ·rw [om_some] at hd
  obtain ⟨q, k1, rfl⟩ := hd
  have : objOf E i = q.2 := by unfold objOf; rw [e4]; rfl
  rw [this, e3]
  exact ⟨k1, e1, e2⟩
 ·rename_i hk; rw [hk] at h3; cases h3
theorem Reg.act (h : Reg P r nt base ops E M) {i : Nat} {o : Oper} (ho : ops[i]? = some o) (hw : (E i).wt = true) (h3 : isActK (kd o.op) = true) :
  (E (i + 1)).pend = (part2 base (M i) (E i).pend).no ∧ ∃ x, aop P (E i).T (addP (E i).st (part2 base (M i) (E i).pend).yes) o.op = some x ∧
   ActOk (r i) (addP (E i).st (part2 base (M i) (E i).pend).yes) (E i).v (E (i + 1)).st x := by
 obtain ⟨d, hd, e1, e2, e3, e4⟩ := h.op i o ho
 rw [hw, ifb_true] at hd
 unfold drawOp at hd
 split at hd
 ·rename_i hk; rw [hk] at h3; cases h3
 ·rename_i hk; rw [hk] at h3; cases h3
 ·rename_i hk; rw [hk] at h3; cases h3
 ·simp only [ob_some] at hd
  obtain ⟨x, k1, k2⟩ := hd
  cases x with
  | val v s => injection k2 with k2; subst k2; exact ⟨e2, _, k1, e3.symm, e1.symm⟩
  | call f args =>
   simp only [om_some] at k2
   obtain ⟨p, k2, rfl⟩ := k2
   exact ⟨e2, _, k1, by show _ = some _; rw [e3, e1]; exact k2⟩
  | yld l args =>
   simp only [om_some] at k2
   obtain ⟨p, k2, rfl⟩ := k2
   exact ⟨e2, _, k1, by show _ = some _; rw [e3, e1]; exact k2⟩
  | dfr f args => cases k2
theorem Reg.unwanted (h : Reg P r nt base ops E M) {i : Nat} {o : Oper} (ho : ops[i]? = some o) (hw : (E i).wt = false) :
  (E i).v = undefA ∧ (E (i + 1)).st = (E i).st ∧ (E (i + 1)).pend = (E i).pend := by
 obtain ⟨d, hd, e1, e2, e3, e4⟩ := h.op i o ho
 rw [hw, ifb_false] at hd
 injection hd with hd; subst hd
 exact ⟨e3, e1, e2⟩
theorem Reg.st_same (h : Reg P r nt base ops E M) {i : Nat} (hi : i < ops.size) (ha : ¬ IsAct ops i) : (E (i + 1)).st = (E i).st := by
 obtain ⟨o, ho⟩ : ∃ o, ops[i]? = some o := ⟨ops[i], by simp [hi]⟩
 cases hw : (E i).wt with
 | false => exact (h.unwanted ho hw).2.1
 | true =>
  by_cases hf : freshK (kd o.op) = true
  ·exact (h.fresh ho hw hf).2.1
  ·exact (h.still ho hw (fun c => ha ⟨o, ho, c⟩) hf).2.1
theorem Reg.st_upto (h : Reg P r nt base ops E M) {a : Nat} : ∀ {c : Nat}, a ≤ c → c ≤ ops.size → (∀ k, a ≤ k → k < c → ¬ IsAct ops k) → (E c).st = (E a).st
  | 0, h1, _, _ => by obtain rfl : a = 0 := by omega
                      rfl
  | c + 1, h1, h2, h3 => by
    by_cases e : a = c + 1
    · subst e; rfl
    · rw [h.st_same (by omega) (h3 c (by omega) (by omega))]
      exact h.st_upto (by omega) (by omega) fun k h4 h5 => h3 k h4 (by omega)
theorem Reg.first (h : Reg P r nt base ops E M) {a c : Nat} (hac : a ≤ c) (hc : c ≤ ops.size) : (∀ k, a ≤ k → k < c → ¬ IsAct ops k) ∨ ∃ b, a ≤ b ∧ b < c ∧ IsAct ops b ∧ (E b).st = (E a).st := by
 obtain ⟨n, rfl⟩ : ∃ n, c = a + n := ⟨c - a, by omega⟩
 clear hac
 induction n with
 | zero => exact .inl fun k h1 h2 => by omega
 | succ n ih =>
  rcases ih (by omega) with k1 | ⟨b, k1, k2, k3, k4⟩
  ·by_cases q : IsAct ops (a + n)
   ·exact .inr ⟨a + n, by omega, by omega, q, h.st_upto (c := a + n) (by omega) (by omega) k1⟩
   ·refine .inl fun k h1 h2 => ?_
    by_cases e : k = a + n
    ·subst e; exact q
    ·exact k1 k h1 (by omega)
  ·exact .inr ⟨b, k1, by omega, k3, k4⟩
theorem Reg.last (h : Reg P r nt base ops E M) {i : Nat} : ∀ {a : Nat}, i ≤ a → a ≤ ops.size → (∀ k, i ≤ k → k < a → ¬ IsAct ops k) ∨ ∃ b, i ≤ b ∧ b < a ∧ IsAct ops b ∧ (E (b + 1)).st = (E a).st
 | 0, _, _ => .inl fun k h1 h2 => by omega
 | a + 1, h1, h2 => by
  by_cases e : i = a + 1
  ·exact .inl fun k h3 h4 => by omega
  ·by_cases q : IsAct ops a
   ·exact .inr ⟨a, by omega, by omega, q, rfl⟩
   ·rcases h.last (i := i) (a := a) (by omega) (by omega) with k1 | ⟨b, k1, k2, k3, k4⟩
    ·refine .inl fun k h3 h4 => ?_
     by_cases e : k = a
     ·subst e; exact q
     ·exact k1 k h3 (by omega)
    ·exact .inr ⟨b, k1, by omega, k3, k4.trans (h.st_same (by omega) q).symm⟩
theorem Abs.mono {j a c : Nat} (h : Abs ops E M j a) (hac : a ≤ c) : Abs ops E M j c := by
 obtain ⟨b, h1, h2, h3⟩ := h; exact ⟨b, h1, by omega, h3⟩
theorem Abs.back {j a c : Nat} (h : Abs ops E M j c) (hn : ∀ k, a ≤ k → k < c → ¬ (IsAct ops k ∧ (E k).wt = true ∧ j < k ∧ tb (M k) j = true)) : Abs ops E M j a := by
 obtain ⟨b, h1, h2, h3, h4, h5⟩ := h
 by_cases e : b < a
 ·exact ⟨b, h1, e, h3, h4, h5⟩
 ·exact absurd ⟨h3, h4, h1, h5⟩ (hn b (by omega) h2)
theorem Reg.pend (h : Reg P r nt base ops E M) : ∀ {i : Nat}, i ≤ ops.size → ∀ p, p ∈ (E i).pend ↔ ∃ j, j < i ∧ IsFr ops E j ∧ ¬ Abs ops E M j i ∧ p = (base + j, objOf E j)
  | 0, _, p => by rw [h.pend0]; simp
  | i + 1, hi, p => by
    have ih := h.pend (i := i) (by omega) p
    obtain ⟨o, ho⟩ : ∃ o, ops[i]? = some o := ⟨ops[i], by simp [show i < ops.size by omega]⟩
    have frI : IsFr ops E i → freshK (kd o.op) = true ∧ (E i).wt = true := by
      rintro ⟨o', h1, h2⟩
      rw [ho] at h1; injection h1 with h1; subst h1; exact h2
    have actI : IsAct ops i → isActK (kd o.op) = true := by
      rintro ⟨o', h1, h2⟩
      rw [ho] at h1; injection h1 with h1; subst h1; exact h2
    -- nothing is taken up, nothing new
    have plain : (E (i + 1)).pend = (E i).pend → ¬ IsFr ops E i → (∀ j, ¬ (IsAct ops i ∧ (E i).wt = true ∧ j < i ∧ tb (M i) j = true)) → (p ∈ (E (i + 1)).pend ↔ ∃ j, j < i + 1 ∧ IsFr ops E j ∧ ¬ Abs ops E M j (i + 1) ∧ p = (base + j, objOf E j)) := by
      intro e1 e2 e3
      rw [e1, ih]
      constructor
      · rintro ⟨j, a, b, c, d⟩
        exact ⟨j, by omega, b, fun q => c (q.back fun k k1 k2 => by obtain rfl : k = i := by omega
                                                                    exact e3 j), d⟩
      · rintro ⟨j, a, b, c, d⟩
        have : j ≠ i := fun e => e2 (e ▸ b)
        exact ⟨j, by omega, b, fun q => c (q.mono (by omega)), d⟩
    cases hw : (E i).wt with
    | false =>
      refine plain (h.unwanted ho hw).2.2 (fun q => ?_) fun j q => ?_
      · have := (frI q).2; rw [hw] at this; cases this
      · have := q.2.1; rw [hw] at this; cases this
    | true =>
      by_cases ha : isActK (kd o.op) = true
      · rw [(h.act ho hw ha).1, part2_mem.2, ih]
        constructor
        · rintro ⟨⟨j, a, b, c, d⟩, e⟩
          subst d
          rw [show base + j - base = j by omega] at e
          refine ⟨j, by omega, b, fun q => c (q.back fun k k1 k2 => ?_), rfl⟩
          obtain rfl : k = i := by omega
          rintro ⟨_, _, _, q⟩
          rw [e] at q; cases q
        · rintro ⟨j, a, b, c, d⟩
          have hj : j ≠ i := fun e => by subst e; have := (frI b).1; revert this ha; cases kd o.op <;> simp [isActK, freshK]
          refine ⟨⟨j, by omega, b, fun q => c (q.mono (by omega)), d⟩, ?_⟩
          subst d
          rw [show base + j - base = j by omega]
          cases q : tb (M i) j with
          | false => rfl
          | true => exact absurd ⟨i, by omega, by omega, ⟨o, ho, ha⟩, hw, q⟩ c
      · by_cases hf : freshK (kd o.op) = true
        · rw [(h.fresh ho hw hf).2.2, List.mem_cons, ih]
          constructor
          · rintro (rfl | ⟨j, a, b, c, d⟩)
            · exact ⟨i, by omega, ⟨o, ho, hf, hw⟩, fun ⟨b, q1, q2, _⟩ => by omega, rfl⟩
            · exact ⟨j, by omega, b, fun q => c (q.back fun k k1 k2 q' => by
                obtain rfl : k = i := by omega
                exact ha (actI q'.1)), d⟩
          · rintro ⟨j, a, b, c, d⟩
            by_cases e : j = i
            · subst e; exact .inl d
            · exact .inr ⟨j, by omega, b, fun q => c (q.mono (by omega)), d⟩
        · exact plain (h.still ho hw ha hf).2.2 (fun q => hf (frI q).1) fun j q => ha (actI q.1)
def dstOf (ops : Array Oper) (j : Nat) : Option Tmp := (ops[j]?).bind (·.dst)
theorem Reg.slot (h : Reg P r nt base ops E M) : ∀ {i : Nat}, i ≤ ops.size → ∀ t v, (E i).T.get t = some v →
  (∃ j, j < i ∧ dstOf ops j = some t ∧ (∀ j', j' < i → dstOf ops j' = some t → j' ≤ j) ∧ v = (E j).v) ∨ ((∀ j, j < i → dstOf ops j ≠ some t) ∧ (E 0).T.get t = some v)
 | 0, _, t, v, hv => .inr ⟨fun j hj => by omega, hv⟩
 | i + 1, hi, t, v, hv => by
  obtain ⟨o, ho⟩ : ∃ o, ops[i]? = some o := ⟨ops[i], by simp [show i < ops.size by omega]⟩
  have hp := h.put i o ho
  have hd : dstOf ops i = o.dst := by simp [dstOf, ho]
  by_cases e : o.dst = some t
  ·refine .inl ⟨i, by omega, by rw [hd, e], fun j' h1 _ => by omega, ?_⟩
   rw [e] at hp
   change ifb (Nat.ble (Nat.succ t) nt) (some ((E i).T.set t (E i).v)) none = _ at hp
   rw [ifb_none] at hp
   have := hp.2
   injection this with this
   rw [← this, Tr.get_set, if_pos rfl] at hv
   injection hv with hv; exact hv.symm
  ·have hv' : (E i).T.get t = some v := by
    cases hd' : o.dst with
    | none => rw [hd'] at hp; injection hp with hp; rw [hp]; exact hv
    | some d =>
     rw [hd'] at hp e
     change ifb (Nat.ble (Nat.succ d) nt) (some ((E i).T.set d (E i).v)) none = _ at hp
     rw [ifb_none] at hp
     have := hp.2
     injection this with this
     rw [← this, Tr.get_set, if_neg (fun q => e (by rw [q]))] at hv
     exact hv
   rcases h.slot (i := i) (by omega) t v hv' with ⟨j, a, b, c, d⟩ | ⟨a, b⟩
   ·refine .inl ⟨j, by omega, b, fun j' h1 h2 => ?_, d⟩
    by_cases q : j' = i
    ·subst q; rw [hd] at h2; exact absurd h2 e
    ·exact c j' (by omega) h2
   ·refine .inr ⟨fun j hj q => ?_, b⟩
    by_cases q' : j = i
    ·subst q'; rw [hd] at q; exact e q
    ·exact a j (by omega) q
end
end Go.Det
namespace Go.Det
variable {P : Program}
def Pn (S : Nat → Bool) (ops : Array Oper) (E : Nat → DEnt) (M : Nat → Nat) (a j : Nat) : Prop := j < ops.size ∧ S j = true ∧ IsFr ops E j ∧ ¬ Abs ops E M j a
def Kn (S : Nat → Bool) (ops : Array Oper) (E : Nat → DEnt) (t : Tmp) (v : AV) : Prop :=
 (∃ j, j < ops.size ∧ S j = true ∧ dstOf ops j = some t ∧ (∀ j', j' < ops.size → S j' = true → dstOf ops j' = some t → j' ≤ j) ∧ v = (E j).v) ∨
 ((∀ j, j < ops.size → S j = true → dstOf ops j ≠ some t) ∧ (E 0).T.get t = some v)
def upd (S : Nat → Bool) (i : Nat) : Nat → Bool := fun j => Nat.beq j i || S j
structure Inv (nt base : Nat) (ops : Array Oper) (E : Nat → DEnt) (M : Nat → Nat) (ρ0 : Names) (st0 : St) (w0 : World) (S : Nat → Bool) (a : Nat) (ρ : Names) (w : World) (tm : Array Value) : Prop where
 an : a ≤ ops.size
 acts : ∀ k, IsAct ops k → (S k = true ↔ k < a)
 clos : ∀ k, k < ops.size → S k = true → ∀ j, tb (M k) j = true → S j = true
 room : base + ops.size ≤ (E a).st.next
 names : ∀ j, j < ops.size → S j = false → ρ (base + j) = none
 apart : ∀ j, Pn S ops E M a j → (E a).st.heap.get (base + j) = none
 heap : ∃ F : St, (F.next = (E a).st.next ∧ F.gl = (E a).st.gl) ∧ (∀ j, Pn S ops E M a j → F.heap.get (base + j) = some (objOf E j)) ∧ (∀ b, (∀ j, Pn S ops E M a j → b ≠ base + j) → F.heap.get b = (E a).st.heap.get b) ∧
  HR ρ F w ∧ Goes ρ0 st0 w0 ρ F w
 slots : ∀ t v, Kn S ops E t v → ∃ v', tm[t]? = some v' ∧ VR ρ v v'
 size : nt ≤ tm.size
section
variable {r : Nat → Rec} {nt base : Nat} {ops : Array Oper} {E : Nat → DEnt} {M : Nat → Nat} {ρ0 : Names} {st0 : St} {w0 : World} {S : Nat → Bool} {a : Nat} {ρ : Names} {w : World} {tm : Array Value}
theorem upd_iff {i j : Nat} : upd S i j = true ↔ j = i ∨ S j = true := by simp [upd]
theorem upd_false {i j : Nat} (h : upd S i j = false) : j ≠ i ∧ S j = false := by
 constructor
 ·intro e; rw [upd_iff.2 (.inl e)] at h; cases h
 ·cases q : S j with
  | false => rfl
  | true => rw [upd_iff.2 (.inr q)] at h; cases h
theorem IsAct.lt {k : Nat} (h : IsAct ops k) : k < ops.size := by
 obtain ⟨o, h, _⟩ := h
 obtain ⟨h, _⟩ := Array.getElem?_eq_some_iff.1 h
 exact h
def Ready (S : Nat → Bool) (ops : Array Oper) (o : Oper) : Prop := ∀ e ∈ o.after.toList, bindE e = true → S e.on = true ∧ e.on < ops.size
theorem Inv.before (hR : Reg P r nt base ops E M) (hI : Inv nt base ops E M ρ0 st0 w0 S a ρ w tm) {i : Nat} {o : Oper} (ho : ops[i]? = some o) (hr : Ready S ops o) {j : Nat} (h : tb (M i) j = true) : S j = true := by
 obtain ⟨e, h1, h2, h3⟩ := hR.clo i o j ho h
 obtain ⟨k1, k2⟩ := hr e h1 h2
 rcases h3 with rfl | h3
 ·exact k1
 ·exact hI.clos _ k2 k1 j h3
theorem Inv.relevel (hR : Reg P r nt base ops E M) (hI : Inv nt base ops E M ρ0 st0 w0 S a ρ w tm) {c : Nat} (hac : a ≤ c) (hc : c ≤ ops.size) (hn : ∀ k, a ≤ k → k < c → ¬ IsAct ops k) : Inv nt base ops E M ρ0 st0 w0 S c ρ w tm := by
 have hs := hR.st_upto hac hc hn
 have hp : ∀ j, Pn S ops E M c j ↔ Pn S ops E M a j := fun j =>
  ⟨fun ⟨h1, h2, h3, h4⟩ => ⟨h1, h2, h3, fun q => h4 (q.mono hac)⟩, fun ⟨h1, h2, h3, h4⟩ => ⟨h1, h2, h3, fun q => h4 (q.back fun k k1 k2 q' => hn k k1 k2 q'.1)⟩⟩
 refine ⟨hc, fun k hk => ?_, hI.clos, by rw [hs]; exact hI.room, hI.names, fun j hj => by rw [hs]; exact hI.apart j ((hp j).1 hj), ?_, hI.slots, hI.size⟩
 ·rw [hI.acts k hk]
  constructor
  ·intro h; omega
  ·intro h
   by_cases q : k < a
   ·exact q
   ·exact absurd hk (hn k (by omega) h)
 ·obtain ⟨F, ⟨f1, fg⟩, f2, f3, f4, f5⟩ := hI.heap
  exact ⟨F, by rw [hs]; exact ⟨f1, fg⟩, fun j hj => f2 j ((hp j).1 hj), fun b hb => by rw [hs]; exact f3 b fun j hj => hb j ((hp j).2 hj), f4, f5⟩
theorem Inv.sub (hI : Inv nt base ops E M ρ0 st0 w0 S a ρ w tm) {F : St} (f3 : ∀ b, (∀ j, Pn S ops E M a j → b ≠ base + j) → F.heap.get b = (E a).st.heap.get b) : ∀ b o, (E a).st.heap.get b = some o → F.heap.get b = some o := by
 intro b o hb
 rw [f3 b fun j hj e => ?_]
 ·exact hb
 ·subst e; rw [hI.apart j hj] at hb; cases hb
theorem Inv.small (hI : Inv nt base ops E M ρ0 st0 w0 S a ρ w tm) : HR ρ (E a).st w := by
 obtain ⟨F, ⟨f1, fg⟩, f2, f3, f4, f5⟩ := hI.heap
 exact f4.ext (Nat.le_of_eq f1) (hI.sub f3) fg.symm
theorem Inv.seen (hR : Reg P r nt base ops E M) (hI : Inv nt base ops E M ρ0 st0 w0 S a ρ w tm) {i : Nat} {o : Oper} (ho : ops[i]? = some o) (hS : S i = false) (hr : Ready S ops o) :
  ∃ T' : Tr AV, TR ρ nt T' tm ∧ ∀ t, t ∈ looks ops.toList o → (E i).T.get t = T'.get t := by
 have hi : i < ops.size := (Array.getElem?_eq_some_iff.1 ho).1
 have behind : ∀ j' t, i < j' → j' < ops.size → S j' = true → t ∈ looks ops.toList o → dstOf ops j' ≠ some t := by
  intro j' t h1 h2 h3 h4 h5
  have hx : ops[j']? = some ops[j'] := by simp [h2]
  have hd : ops[j'].dst = some t := by simpa [dstOf, hx] using h5
  rcases hR.pair i j' o ops[j'] h1 ho hx with q | q
  ·have := hI.clos j' h2 h3 i q
   rw [hS] at this; cases this
  ·exact (apartA_spec q).2.1 t hd h4
 obtain ⟨T', hT'⟩ := restrict (E i).T (looks ops.toList o)
 refine ⟨T', ⟨hI.size, fun t v hv => ?_⟩, fun t ht => by rw [hT' t, if_pos ht]⟩
 rw [hT' t] at hv
 split at hv
 rotate_left
 ·cases hv
 rename_i ht
 apply hI.slots
 rcases hR.slot (Nat.le_of_lt hi) t v hv with ⟨j, h1, h2, h3, h4⟩ | ⟨h1, h2⟩
 ·have hx : ops[j]? = some ops[j] := by simp [show j < ops.size by omega]
  have hd : ops[j].dst = some t := by simpa [dstOf, hx] using h2
  refine .inl ⟨j, by omega, ?_, h2, fun j' k1 k2 k3 => ?_, h4⟩
  ·rcases hR.pair j i ops[j] o h1 hx ho with q | q
   ·exact hI.before hR ho hr q
   ·exact absurd ht ((apartA_spec q).1 t hd)
  ·by_cases q : j' < i
   ·exact h3 j' q k3
   ·by_cases q' : j' = i
    ·subst q'; rw [hS] at k2; cases k2
    ·exact absurd k3 (behind j' t (by omega) k1 k2 ht)
 ·refine .inr ⟨fun j k1 k2 k3 => ?_, h2⟩
  by_cases q : j < i
  ·exact h1 j q k3
  ·by_cases q' : j = i
   ·subst q'; rw [hS] at k2; cases k2
   ·exact absurd k3 (behind j t (by omega) k1 k2 ht)
theorem Inv.slots' (hR : Reg P r nt base ops E M) (hI : Inv nt base ops E M ρ0 st0 w0 S a ρ w tm) {i : Nat} {o : Oper} (ho : ops[i]? = some o) (hS : S i = false) {ρ' : Names} (hle : ρ.le ρ') {v' : Value} (hv : VR ρ' (E i).v v') :
  ∀ t v, Kn (upd S i) ops E t v → ∃ u, (putC tm o.dst v')[t]? = some u ∧ VR ρ' v u := by
 have hi : i < ops.size := (Array.getElem?_eq_some_iff.1 ho).1
 have hdi : dstOf ops i = o.dst := by simp [dstOf, ho]
 intro t v hk
 by_cases e : o.dst = some t
 ·have hev : v = (E i).v := by
   rcases hk with ⟨j, h1, h2, h3, h4, h5⟩ | ⟨h1, h2⟩
   ·by_cases q : j = i
    ·rw [h5, q]
    ·exfalso
     have hj : S j = true := (upd_iff.1 h2).resolve_left q
     have hlt : i < j := by
      have := h4 i hi (upd_iff.2 (.inl rfl)) (by rw [hdi, e])
      omega
     have hx : ops[j]? = some ops[j] := by simp [h1]
     have hd : ops[j].dst = some t := by simpa [dstOf, hx] using h3
     rcases hR.pair i j o ops[j] hlt ho hx with q' | q'
     ·have := hI.clos j h1 hj i q'
      rw [hS] at this; cases this
     ·exact (apartA_spec q').2.2.1 t e hd
   ·exact absurd (by rw [hdi, e]) (h1 i hi (upd_iff.2 (.inl rfl)))
  subst hev
  have hp := hR.put i o ho
  rw [e] at hp
  change ifb (Nat.ble (Nat.succ t) nt) (some ((E i).T.set t (E i).v)) none = _ at hp
  rw [ifb_none] at hp
  have ht : t < tm.size := Nat.lt_of_lt_of_le (of_ble hp.1) hI.size
  exact ⟨v', by simp [putC, e, ht], hv⟩
 ·have : Kn S ops E t v := by
   rcases hk with ⟨j, h1, h2, h3, h4, h5⟩ | ⟨h1, h2⟩
   ·have q : j ≠ i := fun q => by subst q; rw [hdi] at h3; exact e h3
    exact .inl ⟨j, h1, (upd_iff.1 h2).resolve_left q, h3, fun j' k1 k2 k3 => h4 j' k1 (upd_iff.2 (.inr k2)) k3, h5⟩
   ·exact .inr ⟨fun j k1 k2 => h1 j k1 (upd_iff.2 (.inr k2)), h2⟩
  obtain ⟨u, h1, h2⟩ := hI.slots t v this
  refine ⟨u, ?_, h2.mono hle⟩
  cases hd : o.dst with
  | none => exact h1
  | some d =>
   rw [hd] at e
   show (tm.setIfInBounds d v')[t]? = some u
   rw [Array.getElem?_setIfInBounds, if_neg (fun q => e (by rw [q]))]
   exact h1
theorem putC_size (tm : Array Value) (d : Option Tmp) (v : Value) : (putC tm d v).size = tm.size := by cases d <;> simp [putC]
theorem Inv.clos' (hR : Reg P r nt base ops E M) (hI : Inv nt base ops E M ρ0 st0 w0 S a ρ w tm) {i : Nat} {o : Oper} (ho : ops[i]? = some o) (hr : Ready S ops o) :
  ∀ k, k < ops.size → upd S i k = true → ∀ j, tb (M k) j = true → upd S i j = true := by
 intro k h1 h2 j h3
 rcases upd_iff.1 h2 with rfl | h2
 ·exact upd_iff.2 (.inr (hI.before hR ho hr h3))
 ·exact upd_iff.2 (.inr (hI.clos k h1 h2 j h3))
theorem Inv.between (hR : Reg P r nt base ops E M) (hI : Inv nt base ops E M ρ0 st0 w0 S a ρ w tm) {i : Nat} {o : Oper} (ho : ops[i]? = some o) (hS : S i = false) (hr : Ready S ops o) (ha : isActK (kd o.op) = true) :
  a ≤ i ∧ ∀ k, a ≤ k → k < i → ¬ IsAct ops k := by
 refine ⟨?_, fun k h1 h2 h3 => ?_⟩
 ·have := hI.acts i ⟨o, ho, ha⟩
  rw [hS] at this
  simp at this
  omega
 ·obtain ⟨x, hx, hxa⟩ := h3
  rcases hR.pair k i x o h2 hx ho with q | q
  ·have := (hI.acts k ⟨x, hx, hxa⟩).1 (hI.before hR ho hr q)
   omega
  ·exact (apartA_spec q).2.2.2 ⟨hxa, ha⟩
theorem Inv.quiet (hR : Reg P r nt base ops E M) (hI : Inv nt base ops E M ρ0 st0 w0 S a ρ w tm) {i : Nat} {o : Oper} (ho : ops[i]? = some o) (hS : S i = false) (hr : Ready S ops o)
  (hf : ¬ IsFr ops E i) (ha : isActK (kd o.op) = true → (E i).wt = false) {v' : Value} (hv : VR ρ (E i).v v') : ∃ a', Inv nt base ops E M ρ0 st0 w0 (upd S i) a' ρ w (putC tm o.dst v') := by
 have hi : i < ops.size := (Array.getElem?_eq_some_iff.1 ho).1
 have hsl := hI.slots' hR ho hS (Names.le_refl ρ) hv
 have hcl := hI.clos' hR ho hr
 by_cases hact : isActK (kd o.op) = true
 ·obtain ⟨h1, h2⟩ := hI.between hR ho hS hr hact
  have hI' := hI.relevel hR h1 (Nat.le_of_lt hi) h2
  have hw := ha hact
  have hs := (hR.unwanted ho hw).2.1
  have hp : ∀ j, Pn (upd S i) ops E M (i + 1) j ↔ Pn S ops E M i j := fun j => by
   constructor
   ·rintro ⟨k1, k2, k3, k4⟩
    have : j ≠ i := fun e => hf (e ▸ k3)
    exact ⟨k1, (upd_iff.1 k2).resolve_left this, k3, fun q => k4 (q.mono (by omega))⟩
   ·rintro ⟨k1, k2, k3, k4⟩
    refine ⟨k1, upd_iff.2 (.inr k2), k3, fun q => k4 (q.back fun k q1 q2 q3 => ?_)⟩
    obtain rfl : k = i := by omega
    rw [hw] at q3; cases q3.2.1
  obtain ⟨F, ⟨f1, fg⟩, f2, f3, f4, f5⟩ := hI'.heap
  refine ⟨i + 1, by omega, fun k hk => ?_, hcl, by rw [hs]; exact hI'.room, fun j h3 h4 => hI.names j h3 (upd_false h4).2, fun j hj => by rw [hs]; exact hI'.apart j ((hp j).1 hj),
   ⟨F, by rw [hs]; exact ⟨f1, fg⟩, fun j hj => f2 j ((hp j).1 hj), fun b hb => by rw [hs]; exact f3 b fun j hj => hb j ((hp j).2 hj), f4, f5⟩, hsl, by rw [putC_size]; exact hI.size⟩
  rw [upd_iff, hI'.acts k hk]
  omega
 ·have hp : ∀ j, Pn (upd S i) ops E M a j ↔ Pn S ops E M a j := fun j => by
   constructor
   ·rintro ⟨k1, k2, k3, k4⟩
    have : j ≠ i := fun e => hf (e ▸ k3)
    exact ⟨k1, (upd_iff.1 k2).resolve_left this, k3, k4⟩
   ·rintro ⟨k1, k2, k3, k4⟩
    exact ⟨k1, upd_iff.2 (.inr k2), k3, k4⟩
  obtain ⟨F, ⟨f1, fg⟩, f2, f3, f4, f5⟩ := hI.heap
  refine ⟨a, hI.an, fun k hk => ?_, hcl, hI.room, fun j h3 h4 => hI.names j h3 (upd_false h4).2, fun j hj => hI.apart j ((hp j).1 hj),
   ⟨F, ⟨f1, fg⟩, fun j hj => f2 j ((hp j).1 hj), fun b hb => f3 b fun j hj => hb j ((hp j).2 hj), f4, f5⟩, hsl, by rw [putC_size]; exact hI.size⟩
  have hne : k ≠ i := fun e => by
   subst e
   obtain ⟨o', h1, h2⟩ := hk
   rw [ho] at h1; injection h1 with h1; subst h1
   exact hact h2
  rw [upd_iff, ← hI.acts k hk]
  simp [hne]
theorem Inv.made (hR : Reg P r nt base ops E M) (hI : Inv nt base ops E M ρ0 st0 w0 S a ρ w tm) (h0 : st0.next ≤ base) {i : Nat} {o : Oper} (ho : ops[i]? = some o) (hS : S i = false) (hr : Ready S ops o)
  (hf : freshK (kd o.op) = true) (hw : (E i).wt = true) {L : Loc} {x : Obj} (hL : L.blk = w.heap.size) {v' : Value} (hv : VR (ρ.set (base + i) L) (E i).v v') (hO : OR (ρ.set (base + i) L) L (objOf E i) (some x)) :
  Inv nt base ops E M ρ0 st0 w0 (upd S i) a (ρ.set (base + i) L) (worldNew w x) (putC tm o.dst v') := by
 have hi : i < ops.size := (Array.getElem?_eq_some_iff.1 ho).1
 have hn := hI.names i hi hS
 have hsm := hI.small
 have hna : ¬ isActK (kd o.op) = true := fun q => by revert hf q; cases kd o.op <;> simp [isActK, freshK]
 have hab : ¬ Abs ops E M i a := by
  rintro ⟨b, h1, h2, h3, h4, h5⟩
  have := hI.clos b h3.lt ((hI.acts b h3).2 h2) i h5
  rw [hS] at this; cases this
 have hfr : IsFr ops E i := ⟨o, ho, hf, hw⟩
 have hpi : Pn (upd S i) ops E M a i := ⟨hi, upd_iff.2 (.inl rfl), hfr, hab⟩
 have hp : ∀ j, Pn (upd S i) ops E M a j ↔ j = i ∨ Pn S ops E M a j := fun j => by
  constructor
  ·rintro ⟨k1, k2, k3, k4⟩
   rcases upd_iff.1 k2 with e | k2
   ·exact .inl e
   ·exact .inr ⟨k1, k2, k3, k4⟩
  ·rintro (rfl | ⟨k1, k2, k3, k4⟩)
   ·exact hpi
   ·exact ⟨k1, upd_iff.2 (.inr k2), k3, k4⟩
 obtain ⟨F, ⟨f1, fg⟩, f2, f3, f4, f5⟩ := hI.heap
 have put : ∀ b, (F.put (base + i) (objOf E i)).heap.get b = if b = base + i then some (objOf E i) else F.heap.get b := fun b => Tr.get_set ..
 refine ⟨hI.an, fun k hk => ?_, hI.clos' hR ho hr, hI.room, fun j h3 h4 => ?_, fun j hj => ?_, ⟨F.put (base + i) (objOf E i), ⟨f1, fg⟩, fun j hj => ?_, fun b hb => ?_, ?_, ?_⟩, hI.slots' hR ho hS (Names.set_le L hn) hv, by rw [putC_size]; exact hI.size⟩
 ·have hne : k ≠ i := fun e => by
   subst e
   obtain ⟨o', h1, h2⟩ := hk
   rw [ho] at h1; injection h1 with h1; subst h1
   exact hna h2
  rw [upd_iff, ← hI.acts k hk]
  simp [hne]
 ·obtain ⟨k1, k2⟩ := upd_false h4
  have := hI.names j h3 k2
  simp only [Names.set]
  rw [if_neg (by omega)]; exact this
 ·rcases (hp j).1 hj with rfl | hj
  ·cases q : (E a).st.heap.get (base + j) with
   | none => rfl
   | some o' => obtain ⟨K, hK, _⟩ := hsm.obj _ _ q; rw [hn] at hK; cases hK
  ·exact hI.apart j hj
 ·rw [put]
  rcases (hp j).1 hj with rfl | hj
  ·rw [if_pos rfl]
  ·by_cases e : j = i
   ·subst e; rw [if_pos rfl]
   ·rw [if_neg (by omega)]; exact f2 j hj
 ·rw [put, if_neg (hb i hpi)]
  exact f3 b fun j hj => hb j ((hp j).2 (.inr hj))
 ·exact f4.newAt hn (by rw [f1]; have := hI.room; omega) _ L x hL hO
 ·exact f5.newAt (by omega) hn _ L x hL
theorem Inv.acted (hR : Reg P r nt base ops E M) {i : Nat} (hI : Inv nt base ops E M ρ0 st0 w0 S i ρ w tm) {o : Oper} (ho : ops[i]? = some o) (hS : S i = false) (hr : Ready S ops o)
  (ha : isActK (kd o.op) = true) (hw : (E i).wt = true) : HR ρ (addP (E i).st (part2 base (M i) (E i).pend).yes) w ∧
   ∀ ρ' w' v', Goes ρ (addP (E i).st (part2 base (M i) (E i).pend).yes) w ρ' (E (i + 1)).st w' → HR ρ' (E (i + 1)).st w' → VR ρ' (E i).v v' →
    Inv nt base ops E M ρ0 st0 w0 (upd S i) (i + 1) ρ' w' (putC tm o.dst v') := by
 have hi : i < ops.size := (Array.getElem?_eq_some_iff.1 ho).1
 have hfr : ¬ IsFr ops E i := by
  rintro ⟨o', h1, h2, _⟩
  rw [ho] at h1; injection h1 with h1; subst h1
  revert ha h2; cases kd o.op <;> simp [isActK, freshK]
 obtain ⟨F, ⟨f1, fg⟩, f2, f3, f4, f5⟩ := hI.heap
 have yes : ∀ p, p ∈ (part2 base (M i) (E i).pend).yes → ∃ j, j < i ∧ tb (M i) j = true ∧ Pn S ops E M i j ∧ p = (base + j, objOf E j) := by
  intro p hp
  obtain ⟨h1, h2⟩ := part2_mem.1.1 hp
  obtain ⟨j, k1, k2, k3, rfl⟩ := (hR.pend (Nat.le_of_lt hi) p).1 h1
  rw [show base + j - base = j by omega] at h2
  exact ⟨j, k1, h2, ⟨by omega, hI.before hR ho hr h2, k2, k3⟩, rfl⟩
 have hfun : ∀ p ∈ (part2 base (M i) (E i).pend).yes, ∀ q ∈ (part2 base (M i) (E i).pend).yes, p.1 = q.1 → p.2 = q.2 := by
  intro p hp q hq e
  obtain ⟨j, _, _, _, rfl⟩ := yes p hp
  obtain ⟨j', _, _, _, rfl⟩ := yes q hq
  have : j = j' := by simp at e; exact e
  rw [this]
 generalize hA : addP (E i).st (part2 base (M i) (E i).pend).yes = A
 obtain ⟨g1, g2⟩ := addP_get _ (E i).st hfun
 rw [hA] at g1 g2
 have hAn : A.next = (E i).st.next := by rw [← hA]; exact addP_next _ _
 have hAF : ∀ b o, A.heap.get b = some o → F.heap.get b = some o := by
  intro b o' hb
  by_cases c : ∃ p ∈ (part2 base (M i) (E i).pend).yes, p.1 = b
  ·obtain ⟨p, hp, rfl⟩ := c
   rw [g1 p hp] at hb
   obtain ⟨j, _, _, h3, rfl⟩ := yes p hp
   injection hb with hb; subst hb
   exact f2 j h3
  ·rw [g2 b fun p hp e => c ⟨p, hp, e⟩] at hb
   exact hI.sub f3 b o' hb
 refine ⟨f4.ext (by rw [f1, hAn]; exact Nat.le_refl _) hAF (by rw [fg, ← hA, addP_gl]), fun ρ' w' v' g H V => ?_⟩
 obtain ⟨F', ⟨q1, qg⟩, q2, q3⟩ := exists_add (E (i + 1)).st base (objOf E) (fun j => Pn (upd S i) ops E M (i + 1) j) ops.size
 -- what waits on
 have wait : ∀ j, Pn (upd S i) ops E M (i + 1) j → Pn S ops E M i j ∧ A.heap.get (base + j) = none := by
  rintro j ⟨k1, k2, k3, k4⟩
  have hne : j ≠ i := fun e => hfr (e ▸ k3)
  have hp : Pn S ops E M i j := ⟨k1, (upd_iff.1 k2).resolve_left hne, k3, fun q => k4 (q.mono (by omega))⟩
  refine ⟨hp, ?_⟩
  rw [g2 (base + j) fun p hp' e => ?_]
  ·exact hI.apart j hp
  ·obtain ⟨j', h1, h2, _, rfl⟩ := yes p hp'
   have : j' = j := by simp at e; exact e
   subst this
   exact k4 ⟨i, h1, by omega, ⟨o, ho, ha⟩, hw, h2⟩
 have hF' : ∀ b o, F'.heap.get b = some o → (E (i + 1)).st.heap.get b = some o ∨ (F.heap.get b = some o ∧ A.heap.get b = none) := by
  intro b o' hb
  by_cases c : ∃ j, j < ops.size ∧ Pn (upd S i) ops E M (i + 1) j ∧ b = base + j
  ·obtain ⟨j, h1, h2, rfl⟩ := c
   rw [q2 j h1 h2] at hb
   injection hb with hb; subst hb
   obtain ⟨k1, k2⟩ := wait j h2
   exact .inr ⟨f2 j k1, k2⟩
  ·rw [q3 b fun j h1 h2 e => c ⟨j, h1, h2, e⟩] at hb
   exact .inl hb
 obtain ⟨HF, GF⟩ := f4.frame hAF (hAn.trans f1.symm) g H q1 hF' qg
 refine ⟨by omega, fun k hk => ?_, hI.clos' hR ho hr, ?_, fun j h3 h4 => ?_, fun j hj => ?_, ⟨F', ⟨q1, qg⟩, fun j hj => q2 j hj.1 hj, fun b hb => q3 b fun j h1 h2 => hb j h2, HF, f5.trans GF⟩, hI.slots' hR ho hS g.le V, by rw [putC_size]; exact hI.size⟩
 ·rw [upd_iff, hI.acts k hk]; omega
 ·have := g.next; have := hI.room; omega
 ·obtain ⟨k1, k2⟩ := upd_false h4
  have hn := hI.names j h3 k2
  cases q : ρ' (base + j) with
  | none => rfl
  | some L =>
   rcases g.fresh _ _ q with q | ⟨q, _⟩
   ·rw [hn] at q; cases q
   ·have := hI.room; omega
 ·obtain ⟨k1, k2⟩ := wait j hj
  cases q : (E (i + 1)).st.heap.get (base + j) with
  | none => rfl
  | some o' =>
   exfalso
   obtain ⟨L, hL, _⟩ := H.obj _ _ q
   obtain ⟨L0, hL0, _⟩ := f4.obj _ _ (f2 j k1)
   have e := g.le _ _ hL0
   rw [hL] at e; injection e with e; subst e
   obtain ⟨b0, o0, L1, z1, z2, z3⟩ := g.img _ _ _ q hL (f4.lt _ _ hL0).2
   have := f4.inj _ _ _ _ _ _ (hAF _ _ z1) (f2 j k1) z2 hL0 z3
   subst this
   rw [k2] at z1; cases z1
theorem Inv.step (hc : ∀ i, CodeOk P (r i)) (hk : ∀ i, CallOk P (r i).call) (hR : Reg P r nt base ops E M) (hI : Inv nt base ops E M ρ0 st0 w0 S a ρ w tm) (h0 : st0.next ≤ base) {i : Nat} {o : Oper} (ho : ops[i]? = some o) (hS : S i = false) (hr : Ready S ops o)
  {b : Frame} {df : List Deferred} (rest : List Nat) (k : List Item) (cs : List Frame) :
  ∃ a' ρ' w' tm', Inv nt base ops E M ρ0 st0 w0 (upd S i) a' ρ' w' tm' ∧ Steps P (lone (on b tm df (.inRegion ops (i :: rest) :: k)) cs w) (lone (on b tm' df (.inRegion ops rest :: k)) cs w') := by
 have hi : i < ops.size := (Array.getElem?_eq_some_iff.1 ho).1
 obtain ⟨T', hT', hag⟩ := hI.seen hR ho hS hr
 have hwant := hR.want i o ho
 rw [wantedA_congr hag] at hwant
 have hw := wantedA_sound hT' hwant
 have hops := opd_looks hag
 have isFr : IsFr ops E i → freshK (kd o.op) = true ∧ (E i).wt = true := by
  rintro ⟨o', h1, h2⟩
  rw [ho] at h1; injection h1 with h1; subst h1; exact h2
 cases hwt : (E i).wt with
 | false =>
  rw [hwt] at hw
  have hv : VR ρ (E i).v Go.undef := by rw [(hR.unwanted ho hwt).1]; exact .tuple .nil
  obtain ⟨a', hI'⟩ := hI.quiet hR ho hS hr (fun q => by have := (isFr q).2; rw [hwt] at this; cases this) (fun _ => hwt) hv
  exact ⟨a', ρ, w, _, hI', .one (st_unwanted ho hw)⟩
 | true =>
  rw [hwt] at hw
  have run1 : ∀ {v' : Value} {w' : World}, (∀ c, o.op ≠ .defer c) → (execOp (evT tm) o).run P w = .ok (.value v') w' → Steps P (lone (on b tm df (.inRegion ops (i :: rest) :: k)) cs w) (lone (on b (putC tm o.dst v') df (.inRegion ops rest :: k)) cs w') := by
   intro v' w' hd hrun
   have hfin := finish_on b tm df ops i rest k v'
   simp only [ho, Option.bind_some] at hfin
   refine .one (step_lone_go ?_)
   rw [stepG_on ho hw (.inr hd), ← hfin]
   exact ap_value hrun
  by_cases ha : isActK (kd o.op) = true
  ·obtain ⟨h1, h2⟩ := hI.between hR ho hS hr ha
   have hI' := hI.relevel hR h1 (Nat.le_of_lt hi) h2
   obtain ⟨HA, fin⟩ := hI'.acted hR ho hS hr ha hwt
   obtain ⟨_, x, hx, hx2⟩ := hR.act ho hwt ha
   rw [aop_congr hops] at hx
   obtain ⟨ρ', w', v', g, H, V, hs⟩ := act_sound (hc i) (hk i) hx hx2 HA (evT_sound hT') (b := b) (df := df) ho hw rest k cs
   exact ⟨i + 1, ρ', w', _, fin ρ' w' v' g H V, hs⟩
  ·have hnd : ∀ c, o.op ≠ .defer c := fun c e => ha (by rw [e]; rfl)
   by_cases hf : freshK (kd o.op) = true
   ·have hfa := (hR.fresh ho hwt hf).1
    rw [freshA_congr hops] at hfa
    obtain ⟨v', x, tot, k1, k2⟩ := fresh_sound (w := w) (ρ := ρ) (evT_sound hT') hfa
    have hn := hI.names i hi hS
    obtain ⟨k3, k4⟩ := k2 _ (Names.set_le ⟨w.heap.size, 0, tot⟩ hn) (Names.set_same _ _ _)
    exact ⟨a, _, _, _, hI.made hR h0 ho hS hr hf hwt rfl k3 k4, run1 hnd k1⟩
   ·-- what looks only
    have hst : stillK (kd o.op) = true := by
     revert ha hf; cases kd o.op <;> simp [isActK, freshK, stillK]
    obtain ⟨⟨s1, hs1⟩, _, _⟩ := hR.still ho hwt ha hf
    have hval : ∃ s2, aop P (E i).T (E a).st o.op = some (.val (E i).v s2) := by
     by_cases hrd : isReadK (kd o.op) = true
     ·have rd := fun b hb => hR.rds i o ho hrd hwt b hb
      by_cases hle : a ≤ i
      ·rcases hR.first hle (Nat.le_of_lt hi) with q | ⟨c, c1, c2, c3, c4⟩
       ·rw [← hR.st_upto hle (Nat.le_of_lt hi) q]; exact ⟨_, hs1⟩
       ·obtain ⟨x, hx, hxa⟩ := c3
        rcases (rd c x hx hxa).1 c2 with q | q
        ·have := (hI.acts c ⟨x, hx, hxa⟩).1 (hI.before hR ho hr q)
         omega
        ·rw [c4] at q; exact readSame_spec q
      ·rcases hR.last (i := i) (a := a) (by omega) hI.an with q | ⟨c, c1, c2, c3, c4⟩
       ·rw [hR.st_upto (a := i) (c := a) (by omega) hI.an q]; exact ⟨_, hs1⟩
       ·obtain ⟨x, hx, hxa⟩ := c3
        rcases (rd c x hx hxa).2 c1 with q | q
        ·have := hI.clos c (IsAct.lt ⟨x, hx, hxa⟩) ((hI.acts c ⟨x, hx, hxa⟩).2 c2) i q
         rw [hS] at this; cases this
        ·rw [c4] at q; exact readSame_spec q
     ·exact ⟨_, aop_pure (kd_pure_of ha hrd hf) hs1 _⟩
    obtain ⟨s2, hs2⟩ := hval
    rw [aop_congr hops] at hs2
    obtain ⟨v, e, v', k1, k2⟩ := still_sound (evT_sound hT') hI.small hs2 hst
    injection e with e _
    subst e
    obtain ⟨a', hI'⟩ := hI.quiet hR ho hS hr (fun q => hf (isFr q).1) (fun q => absurd q ha) k2
    exact ⟨a', ρ, w, _, hI', run1 hnd k1⟩
end
end Go.Det
namespace Go.Det
variable {P : Program}
def cntF (S : Nat → Bool) : Nat → Nat
 | 0 => 0
 | n + 1 => cntF S n + (if S n = true then 0 else 1)
theorem cntF_congr {S S' : Nat → Bool} : ∀ {n : Nat}, (∀ j, j < n → S j = S' j) → cntF S n = cntF S' n
 | 0, _ => rfl
 | n + 1, h => by rw [cntF, cntF, cntF_congr fun j hj => h j (by omega), h n (by omega)]
theorem cntF_upd {S : Nat → Bool} {i : Nat} (hS : S i = false) : ∀ {n : Nat}, i < n → cntF (upd S i) n + 1 = cntF S n
  | n + 1, h => by
    rw [cntF, cntF]
    by_cases e : i = n
    · subst e
      rw [cntF_congr (S := upd S i) (S' := S) fun j hj => by
        have : Nat.beq j i = false := beq_f (by omega)
        simp [upd, this]]
      rw [hS, if_pos (upd_iff.2 (.inl rfl))]
      simp
    · have ih := cntF_upd hS (n := n) (by omega)
      have : (upd S i n = true) ↔ (S n = true) := by rw [upd_iff]; constructor
                                                     · rintro (q | q)
                                                       · exact absurd q.symm e
                                                       · exact q
                                                     · exact .inr
      by_cases q : S n = true
      · rw [if_pos q, if_pos (this.2 q)]; omega
      · rw [if_neg q, if_neg (fun z => q (this.1 z))]; omega
theorem cntF_zero {S : Nat → Bool} : ∀ {n : Nat}, cntF S n = 0 → ∀ j, j < n → S j = true
 | n + 1, h, j, hj => by
  rw [cntF] at h
  by_cases q : S n = true
  ·by_cases e : j = n
   ·subst e; exact q
   ·exact cntF_zero (n := n) (by omega) j (by omega)
  ·rw [if_neg q] at h; omega
theorem cntF_none {S : Nat → Bool} : ∀ {n : Nat}, (∀ j, j < n → S j = false) → cntF S n = n
 | 0, _ => rfl
 | n + 1, h => by rw [cntF, cntF_none fun j hj => h j (by omega), h n (by omega)]; simp
theorem least {S : Nat → Bool} : ∀ {n : Nat}, (∀ j, j < n → S j = true) ∨ ∃ i, i < n ∧ S i = false ∧ ∀ k, k < i → S k = true
 | 0 => .inl fun j hj => by omega
 | n + 1 => by
  rcases least (S := S) (n := n) with h | ⟨i, h1, h2, h3⟩
  ·cases q : S n with
   | false => exact .inr ⟨n, by omega, q, h⟩
   | true =>
    refine .inl fun j hj => ?_
    by_cases e : j = n
    ·subst e; exact q
    ·exact h j (by omega)
  ·exact .inr ⟨i, by omega, h2, h3⟩
theorem binds_any (e : Edge) : Region.binds .any e = bindE e := by
 unfold Region.binds bindE
 cases e.ground <;> rfl
def sOf (listed : Array Bool) : Nat → Bool := fun i => listed.getD i true
theorem sOf_set {listed : Array Bool} {i : Nat} (hi : i < listed.size) : sOf (listed.setIfInBounds i true) = upd (sOf listed) i := by
 funext j
 unfold sOf upd
 simp only [Array.getD_eq_getD_getElem?, Array.getElem?_setIfInBounds]
 by_cases e : i = j
 ·subst e; simp [hi]
 ·have : Nat.beq j i = false := beq_f (by omega)
  rw [if_neg e, this]; simp
theorem mem_ready {ops : Array Oper} {listed : Array Bool} (hl : listed.size = ops.size) {i : Nat} :
  i ∈ Region.ready .any ops listed ↔ ∃ o, ops[i]? = some o ∧ sOf listed i = false ∧ Ready (sOf listed) ops o := by
 unfold Region.ready
 rw [List.mem_filter, List.mem_range]
 constructor
 ·rintro ⟨h1, h2⟩
  have ho : ops[i]? = some ops[i] := by simp [h1]
  rw [ho] at h2
  simp only [Option.map_some, Option.getD_some, Bool.and_eq_true, Bool.not_eq_true', Array.all_eq_true'] at h2
  refine ⟨ops[i], ho, h2.1, fun e he hb => ?_⟩
  have := h2.2 e (by simpa using he)
  rw [binds_any, hb] at this
  simp at this
  by_cases q : e.on < listed.size
  ·refine ⟨?_, by omega⟩
   unfold sOf
   simp only [Array.getD_eq_getD_getElem?] at this ⊢
   rw [Array.getElem?_eq_getElem q] at this ⊢
   simpa using this
  ·simp [q] at this
 ·rintro ⟨o, h1, h2, h3⟩
  have hi : i < ops.size := (Array.getElem?_eq_some_iff.1 h1).1
  refine ⟨hi, ?_⟩
  rw [h1]
  simp only [Option.map_some, Option.getD_some, Bool.and_eq_true, Bool.not_eq_true', Array.all_eq_true']
  refine ⟨h2, fun e he => ?_⟩
  rw [binds_any]
  cases hb : bindE e with
  | false => rfl
  | true =>
   obtain ⟨k1, k2⟩ := h3 e (by simpa using he) hb
   unfold sOf at k1
   simp only [Array.getD_eq_getD_getElem?] at k1 ⊢
   rw [Array.getElem?_eq_getElem (by omega)] at k1 ⊢
   simpa using k1
section
variable {r : Nat → Rec} {nt base : Nat} {ops : Array Oper} {E : Nat → DEnt} {M : Nat → Nat} {ρ0 : Names} {st0 : St} {w0 : World}
theorem draw_loop (hc : ∀ i, CodeOk P (r i)) (hk : ∀ i, CallOk P (r i).call) (hR : Reg P r nt base ops E M) (h0 : st0.next ≤ base) {b : Frame} {df : List Deferred} (k : List Item) (cs : List Frame) :
  ∀ (fuel t : Nat) (listed : Array Bool) (a : Nat) (ρ : Names) (w : World) (tm : Array Value), listed.size = ops.size → cntF (sOf listed) ops.size = fuel → Inv nt base ops E M ρ0 st0 w0 (sOf listed) a ρ w tm →
  ∃ S a' ρ' w' tm', (∀ j, j < ops.size → S j = true) ∧ Inv nt base ops E M ρ0 st0 w0 S a' ρ' w' tm' ∧
   Steps P (lone (on b tm df (.inRegion ops (Region.linearise.go .any ops fuel t listed []) :: k)) cs w) (lone (on b tm' df (.inRegion ops [] :: k)) cs w') := by
 intro fuel
 induction fuel with
 | zero =>
  intro t listed a ρ w tm hl hcnt hI
  exact ⟨_, a, ρ, w, tm, cntF_zero hcnt, hI, by simp only [Region.linearise.go, List.reverse_nil]; exact Steps.refl _ _⟩
 | succ fuel ih =>
  intro t listed a ρ w tm hl hcnt hI
  have hne : Region.ready .any ops listed ≠ [] := by
   rcases least (S := sOf listed) (n := ops.size) with h | ⟨i, h1, h2, h3⟩
   ·exfalso
    have : ∀ n, n ≤ ops.size → cntF (sOf listed) n = 0 := by
     intro n hn
     induction n with
     | zero => rfl
     | succ n ih => rw [cntF, ih (by omega), h n (by omega)]; rfl
    rw [this _ (Nat.le_refl _)] at hcnt
    cases hcnt
   ·have ho : ops[i]? = some ops[i] := by simp [h1]
    have : i ∈ Region.ready .any ops listed := (mem_ready hl).2 ⟨ops[i], ho, h2, fun e he hb => by
     have := hR.bck i ops[i] ho e he hb
     exact ⟨h3 _ this, by omega⟩⟩
    intro q; rw [q] at this; simp at this
  have hlen : 0 < (Region.ready .any ops listed).length := List.length_pos_iff.2 hne
  obtain ⟨i, hi⟩ : ∃ i, (Region.ready .any ops listed)[t % (Region.ready .any ops listed).length]? = some i := ⟨_, List.getElem?_eq_getElem (Nat.mod_lt _ hlen)⟩
  obtain ⟨o, ho, hS, hr⟩ := (mem_ready hl).1 (List.mem_of_getElem? hi)
  have hin : i < ops.size := (Array.getElem?_eq_some_iff.1 ho).1
  have hgo : Region.linearise.go .any ops (fuel + 1) t listed [] = i :: Region.linearise.go .any ops fuel (t / (Region.ready .any ops listed).length) (listed.setIfInBounds i true) [] := by
   simp only [Region.linearise.go]
   change (match (Region.ready .any ops listed)[t % (Region.ready .any ops listed).length]? with
    | some i => Region.linearise.go .any ops fuel (t / (Region.ready .any ops listed).length) (listed.setIfInBounds i true) [i]
    | none => [].reverse) = _
   rw [hi]
   simp only []
   rw [linearise_go_acc, List.reverse_singleton, List.singleton_append]
  rw [hgo]
  obtain ⟨a1, ρ1, w1, tm1, hI1, s1⟩ := hI.step hc hk hR h0 ho hS hr (b := b) (df := df) (Region.linearise.go .any ops fuel (t / (Region.ready .any ops listed).length) (listed.setIfInBounds i true) []) k cs
  have hset := sOf_set (listed := listed) (i := i) (by omega)
  rw [← hset] at hI1
  have hc1 : cntF (sOf (listed.setIfInBounds i true)) ops.size = fuel := by
   rw [hset]
   have := cntF_upd hS (n := ops.size) hin
   omega
  obtain ⟨S, a', ρ', w', tm', z1, z2, z3⟩ := ih _ (listed.setIfInBounds i true) a1 ρ1 w1 tm1 (by simpa using hl) hc1 hI1
  exact ⟨S, a', ρ', w', tm', z1, z2, s1.trans z3⟩
theorem Inv.done (hR : Reg P r nt base ops E M) {S : Nat → Bool} {a : Nat} {ρ : Names} {w : World} {tm : Array Value} (hI : Inv nt base ops E M ρ0 st0 w0 S a ρ w tm) (hS : ∀ j, j < ops.size → S j = true) :
  Goes ρ0 st0 w0 ρ (addP (E ops.size).st (E ops.size).pend) w ∧ HR ρ (addP (E ops.size).st (E ops.size).pend) w ∧ TR ρ nt (E ops.size).T tm := by
 have hI' := hI.relevel hR hI.an (Nat.le_refl _) fun k h1 h2 h3 => by
  have := (hI.acts k h3).1 (hS k h2)
  omega
 have hpe := fun p => hR.pend (Nat.le_refl ops.size) p
 have hfun : ∀ p ∈ (E ops.size).pend, ∀ q ∈ (E ops.size).pend, p.1 = q.1 → p.2 = q.2 := by
  intro p hp q hq e
  obtain ⟨j, _, _, _, rfl⟩ := (hpe p).1 hp
  obtain ⟨j', _, _, _, rfl⟩ := (hpe q).1 hq
  have : j = j' := by simp at e; exact e
  rw [this]
 obtain ⟨g1, g2⟩ := addP_get _ (E ops.size).st hfun
 obtain ⟨F, ⟨f1, fg⟩, f2, f3, f4, f5⟩ := hI'.heap
 have hsub : ∀ b o, (addP (E ops.size).st (E ops.size).pend).heap.get b = some o → F.heap.get b = some o := by
  intro b o hb
  by_cases c : ∃ p ∈ (E ops.size).pend, p.1 = b
  ·obtain ⟨p, hp, rfl⟩ := c
   rw [g1 p hp] at hb
   obtain ⟨j, k1, k2, k3, rfl⟩ := (hpe p).1 hp
   injection hb with hb; subst hb
   exact f2 j ⟨k1, hS j k1, k2, k3⟩
  ·rw [g2 b fun p hp e => c ⟨p, hp, e⟩] at hb
   exact hI'.sub f3 b o hb
 have hn : F.next ≤ (addP (E ops.size).st (E ops.size).pend).next := by rw [addP_next, f1]; exact Nat.le_refl _
 refine ⟨f5.ext hn hsub, f4.ext hn hsub (by rw [addP_gl, fg]), hI.size, fun t v hv => ?_⟩
 apply hI.slots
 rcases hR.slot (Nat.le_refl _) t v hv with ⟨j, h1, h2, h3, h4⟩ | ⟨h1, h2⟩
 ·exact .inl ⟨j, h1, hS j h1, h2, fun j' k1 _ k3 => h3 j' k1 k3, h4⟩
 ·exact .inr ⟨fun j k1 _ => h1 j k1, h2⟩
end
theorem draw_sound (hm : P.follows .mixedOrders = true) {r : Nat → Rec} (hc : ∀ i, CodeOk P (r i)) (hk : ∀ i, CallOk P (r i).call) {nt : Nat} {ops : Array Oper} {T : Tr AV} {D : List ADef} {st : St} {m : Mid} (h : drawRunR P r nt ops.toList T D st = some m)
  {ρ : Names} {w : World} {tm : Array Value} {df : List Deferred} (hH : HR ρ st w) (hT : TR ρ nt T tm) (hD : DRs ρ D df) {b : Frame} (id : Nat) (k : List Item) (cs : List Frame) :
  ∃ ρ' w' tm' df', Goes ρ st w ρ' m.st w' ∧ HR ρ' m.st w' ∧ TR ρ' nt m.tmps tm' ∧ DRs ρ' m.defers df' ∧
   Steps P (lone (on b tm df (.code (.region id ops true) :: k)) cs w) (lone (on b tm' df' k) cs w') := by
 unfold drawRunR at h
 simp only [ifb_none, ob_some] at h
 obtain ⟨hreg, q, hgo, hrd, h⟩ := h
 injection h with h; subst h
 obtain ⟨trf, mid⟩ := q
 obtain ⟨_, ⟨e0, d1, d2, d3, d4⟩, d5, e1, d6, d7⟩ := drawGo_data hgo rfl
 simp only [Nat.zero_add, Array.length_toList, Array.getElem?_toList] at d5 d6
 let E : Nat → DEnt := fun k => (trf[k]?).getD e0
 let M : Nat → Nat := fun i => (nth i (befs [] ops.toList)).getD 0
 have hE : ∀ k e, trf[k]? = some e → E k = e := fun k e he => by show (trf[k]?).getD e0 = e; rw [he]; rfl
 have hM : ∀ i mi, nth i (befs [] ops.toList) = some mi → M i = mi := fun i mi he => by show (nth i _).getD 0 = mi; rw [he]; rfl
 have stp : ∀ i o, ops[i]? = some o → Stp P r nt st.next ops.toList (befs [] ops.toList) i o (E i) (E (i + 1)) := by
  intro i o ho
  obtain ⟨e, e', k1, k2, k3⟩ := d5 i o ho
  rw [hE i e k1, hE (i + 1) e' k2]; exact k3
 have hR : Reg P r nt st.next ops E M := by
  refine ⟨fun i o ho => ?_, fun i o ho => ?_, fun i o ho => ?_, fun i o j ho hj => ?_, fun i o ho => ?_, fun i k x y hik hx hy => ?_, fun i o ho hrk hwt a x hx hxa => ?_, ?_⟩
  ·obtain ⟨mi, d, a1, a2, a3, a4, a5, a6, a7, a8⟩ := stp i o ho; exact a2
  ·obtain ⟨mi, d, a1, a2, a3, a4, a5, a6, a7, a8⟩ := stp i o ho
   exact ⟨d, by rw [hM i mi a1]; exact a3, a5, a6, a7, a8⟩
  ·obtain ⟨mi, d, a1, a2, a3, a4, a5, a6, a7, a8⟩ := stp i o ho; rw [a7]; exact a4
  ·obtain ⟨mi, d, a1, a2⟩ := stp i o ho
   rw [hM i mi a1] at hj
   obtain ⟨e, q1, q2, q3⟩ := bef_closed (by rw [Array.getElem?_toList]; exact ho) a1 hj
   refine ⟨e, q1, q2, ?_⟩
   rcases q3 with q3 | ⟨m', q3, q4⟩
   ·exact .inl q3
   ·exact .inr (by rw [hM _ _ q3]; exact q4)
  ·obtain ⟨mi, q1, q2, q3⟩ := regOk_spec hreg (k := i) (y := o) (by rw [Array.getElem?_toList]; exact ho)
   exact backs_spec q2
  ·obtain ⟨mi, q1, q2, q3⟩ := regOk_spec hreg (k := k) (y := y) (by rw [Array.getElem?_toList]; exact hy)
   rw [hM _ _ q1]
   exact q3 i x hik (by rw [Array.getElem?_toList]; exact hx)
  ·obtain ⟨e, e', k1, k2, k3⟩ := d5 i o ho
   have hEi := hE i e k1
   have := readsOk_spec hrd i o e (by rw [Array.getElem?_toList]; exact ho) k1 hrk (by rw [← hEi]; exact hwt)
   rw [Nat.zero_add] at this
   have := readsOk1_spec this a x (by rw [Array.getElem?_toList]; exact hx) hxa
   simp only [Nat.zero_add] at this
   rw [hEi]
   constructor
   ·intro hlt
    rcases this.1 hlt with ⟨mi, q1, q2⟩ | ⟨ea, q1, q2⟩
    ·exact .inl (by rw [hM _ _ q1]; exact q2)
    ·exact .inr (by rw [hE _ _ q1]; exact q2)
   ·intro hle
    rcases this.2 hle with ⟨mi, q1, q2⟩ | ⟨ea, q1, q2⟩
    ·exact .inl (by rw [hM _ _ q1]; exact q2)
    ·exact .inr (by rw [hE _ _ q1]; exact q2)
  ·rw [hE 0 e0 d1]; exact d4
 have hE0 := hE 0 e0 d1
 have hEn := hE _ _ d6
 have hs0 : ∀ j, j < ops.size → sOf (Array.replicate ops.size false) j = false := fun j hj => by simp [sOf, hj]
 have hI : Inv nt st.next ops E M ρ st { w with drawn := w.drawn + 1 } (sOf (Array.replicate ops.size false)) 0 ρ { w with drawn := w.drawn + 1 } tm := by
  have hst : (E 0).st = ⟨st.heap, st.next + ops.size, st.vm, st.gl, st.rw⟩ := by rw [hE0, d3]; simp
  have hH' : HR ρ (E 0).st { w with drawn := w.drawn + 1 } := (hH.drew _).ext (by rw [hst]; exact Nat.le_add_right _ _) (by rw [hst]; exact fun b o h => h) (by rw [hst])
  refine ⟨Nat.zero_le _, fun k hk => ?_, fun k h1 h2 => ?_, by rw [hst]; exact Nat.le_refl _, fun j hj _ => ?_, fun j hj => ?_, ⟨(E 0).st, ⟨rfl, rfl⟩, fun j hj => ?_, fun b hb => rfl, hH', ?_⟩, fun t v hk => ?_, hT.1⟩
  ·rw [hs0 k hk.lt]; simp
  ·rw [hs0 k h1] at h2; cases h2
  ·cases q : ρ (st.next + j) with
   | none => rfl
   | some L => have := (hH.lt _ _ q).1; omega
  ·have := hj.2.1; rw [hs0 j hj.1] at this; cases this
  ·have := hj.2.1; rw [hs0 j hj.1] at this; cases this
  ·exact Goes.refl.ext (by rw [hst]; exact Nat.le_add_right _ _) (by rw [hst]; exact fun b o h => h)
  ·rcases hk with ⟨j, h1, h2, _⟩ | ⟨_, h2⟩
   ·rw [hs0 j h1] at h2; cases h2
   ·rw [hE0, d2] at h2; exact hT.2 t v h2
 have hsched : Region.schedule (P.follows .mixedOrders) ops (w.tape w.drawn (.order b.fn id)) = Region.linearise.go .any ops ops.size (w.tape w.drawn (.order b.fn id)) (Array.replicate ops.size false) [] := by
  simp only [Region.schedule, hm, Bool.true_or, if_true]
  rfl
 obtain ⟨S, a', ρ', w', tm', z1, z2, z3⟩ := draw_loop hc hk hR (Nat.le_refl st.next) (b := b) (df := df) k cs ops.size (w.tape w.drawn (.order b.fn id)) (Array.replicate ops.size false) 0 ρ { w with drawn := w.drawn + 1 } tm (by simp) (cntF_none hs0) hI
 obtain ⟨y1, y2, y3⟩ := z2.done hR z1
 rw [hEn] at y1 y2 y3
 subst d7
 refine ⟨ρ', w', tm', df, ?_, y2, y3, hD.mono y1.le, .head st_draw ?_⟩
 ·exact ⟨y1.le, y1.next, y1.fresh, y1.size, y1.img, y1.same, y1.os, y1.tape, y1.output, Nat.le_trans (Nat.le_succ _) y1.drawn, y1.grew⟩
 ·rw [hsched]; exact z3.trans (.one st_regionEnd)
end Go.Det
namespace Go.Det
variable {P : Program}
theorem Steps.cut {m0 m1 X : Machine} (h : step P m0 = .next m1) (hx : Steps P m0 X) (hne : X ≠ m0) : Steps P m1 X := by
 obtain ⟨n, hn⟩ := hx
 cases n with
 | zero => simp [runN] at hn; exact absurd hn.symm hne
 | succ n => exact ⟨n, by simpa [runN, h] using hn⟩
theorem lone_todo {fr fr' : Frame} {cs cs' : List Frame} {w w' : World} (h : lone fr cs w = lone fr' cs' w') : fr.todo = fr'.todo := by
 have := congrArg (fun m : Machine => (m.gs[0]?).map (·.frame.todo)) h
 simpa [lone] using this
theorem Arr.cut {b : Frame} {tm0 tm : Array Value} {df0 df : List Deferred} {c : Code} {k : List Item} {cs cs0 : List Frame} {w0 w : World} {m1 : Machine} {e : Ex} (h : step P (lone (on b tm0 df0 (.code (.loop c) :: k)) cs0 w0) = .next m1)
  (ha : Arr P (lone (on b tm0 df0 (.code (.loop c) :: k)) cs0 w0) b k cs e tm df w) : Arr P m1 b k cs e tm df w := by
 cases e with
 | normal =>
  refine Steps.cut h ha fun q => ?_
  have := lone_todo q
  simp only [on] at this
  have := congrArg List.length this
  simp at this
 | exit id =>
  obtain ⟨k2, h1, h2⟩ := ha
  refine ⟨k2, h1, Steps.cut h h2 fun q => ?_⟩
  have := lone_todo q
  simp [on] at this
 | ret =>
  obtain ⟨k2, h2⟩ := ha
  refine ⟨k2, Steps.cut h h2 fun q => ?_⟩
  have := lone_todo q
  simp [on] at this
theorem Arr.bind {m : Machine} {b : Frame} {k k' : List Item} {cs : List Frame} {e : Ex} {tm : Array Value} {df : List Deferred} {w : World} (hk : ∀ id, exitTo id k' = exitTo id k) (h : Arr P m b k' cs e tm df w) (he : e ≠ .normal) : Arr P m b k cs e tm df w := by
 cases e with
 | normal => exact absurd rfl he
 | exit id => obtain ⟨k2, h1, h2⟩ := h; exact ⟨k2, h1.trans (hk id), h2⟩
 | ret => exact h
theorem st_scope {b : Frame} {tm : Array Value} {df : List Deferred} {k : List Item} {cs : List Frame} {w : World} {c : Code} : step P (lone (on b tm df (.code (.scope c) :: k)) cs w) = .next (lone (on b tm df (.code c :: .inScope c :: k)) cs w) := step_lone_go (by simp [stepG, stepG.exec, on])
theorem st_inScope {b : Frame} {tm : Array Value} {df : List Deferred} {k : List Item} {cs : List Frame} {w : World} {c : Code} : step P (lone (on b tm df (.inScope c :: k)) cs w) = .next (lone (on b tm df k) cs w) := step_lone_go (by simp [stepG, stepG.exec, on])
theorem st_rangeFunc {b : Frame} {tm : Array Value} {df mark : List Deferred} {g : Operand} {ps : Array Tmp} {asl body : Code} {k : List Item} {cs : List Frame} {w w2 : World} {l : Nat} {f : FuncId} {A : Array Value}
  (he : (Instr.enterLoop b.fn tm ps asl body b.roundOf).run P w = .ok (l, mark) w2)
  (hr : (do let d ← resolve (evT tm) { callee := .value g, args := #[.const (.func (.yield l) #[] #[])], argTypes := #[] } 0; invoke d.target d.args : Sem Next).run P w2 = .ok (.enter f A) w2) :
  step P (lone (on b tm df (.code (.rangeFunc g ps asl body) :: k)) cs w) = .next (lone (Frame.enter P f A .normal) (on b tm (mark ++ df) (.inRangeFunc l :: k) :: cs) w2) := by
 refine step_lone_go ?_
 have hev := on_eval b tm (mark ++ df) (.inRangeFunc l :: k)
 have := ap_enter (P := P) (fr := on b tm (mark ++ df) (.inRangeFunc l :: k)) (cs := cs) hr (by simp [on])
 rw [← hev] at this
 simp only [on] at this
 simp only [stepG, stepG.exec, on, Sem.runT_eq, he, GStep.bare_after]
 exact this
theorem st_endRange {b : Frame} {tm : Array Value} {df : List Deferred} {k : List Item} {cs : List Frame} {w w2 : World} {l : Nat} {j : Option Code} (h : (Instr.endLoop l).run P w = .ok j w2) :
  step P (lone (on b tm df (.endRangeFunc l :: k)) cs w) = .next (lone (on b tm df ((j.map Item.code).toList ++ k)) cs w2) := by
 refine step_lone_go ?_
 simp only [stepG, stepG.exec, on, Sem.runT_eq, h, GStep.bare_after]
 rfl
theorem jumpA_some {c : Code} {e : Ex} (h : jumpA c = some e) : (∃ id, c = .exit id ∧ e = .exit id) ∨ (c = .ret ∧ e = .ret) := by
 unfold jumpA at h
 split at h
 ·injection h with h; exact .inl ⟨_, rfl, h.symm⟩
 ·injection h with h; exact .inr ⟨rfl, h.symm⟩
 ·cases h
theorem loopPlace_sound {ro rb : Option Nat} {D : List ADef} {st : St} {q : Place} (h : loopPlace ro D st = some q) {ρ : Names} {w : World} (hH : HR ρ st w) {df : List Deferred} (hD : DRs ρ D df) (hro : RoR ρ ro rb) (fn : FuncId) (tm : Array Value) (ps : Array Tmp) (asl body : Code) :
  ∃ ρ1 w1 mark dL, Goes ρ st w ρ1 q.st w1 ∧ HR ρ1 q.st w1 ∧ DRs ρ1 q.defers (mark ++ df) ∧ ρ1 q.d = some dL ∧
   (Instr.enterLoop fn tm ps asl body rb).run P w = .ok (w1.heap.size, mark) (worldNew w1 (.loop { state := .ready, pending := none, fn, tmps := tm, params := ps, assign := asl, body, defers := dL.blk })) := by
 unfold loopPlace at h
 cases hro with
 | none =>
  injection h with h; subst h
  obtain ⟨H, G⟩ := hH.new (.deferred true) ⟨w.heap.size, 0, 0⟩ (.deferred (some [])) rfl rfl
  refine ⟨_, _, [{ target := .collected w.heap.size, args := #[] }], ⟨w.heap.size, 0, 0⟩, G, H, .cons (.collected (Names.set_same _ _ _)) (hD.mono G.le), Names.set_same _ _ _, ?_⟩
  simp [Instr.enterLoop, newObj, Sem.run, worldNew]
  rfl
 | some hl =>
  rename_i l L
  change om (fun p => (⟨p.defers, D, st⟩ : Place)) (loopOf st l) = some q at h
  rw [om_some] at h
  obtain ⟨p, h1, rfl⟩ := h
  obtain ⟨tm', d, k1, k2, k3⟩ := loop_at hH h1 hl
  refine ⟨ρ, w, [], d, Goes.refl, hH, hD, k3, ?_⟩
  simp [Instr.enterLoop, Instr.getLoop, getObj, newObj, Sem.run, worldNew, k1]
theorem RoR.isNone {ρ : Names} {ro rb : Option Nat} (h : RoR ρ ro rb) (hn : Option.isNone ro = true) : rb = Option.none := by
 cases h with
 | none => rfl
 | some _ => cases hn
theorem code_sound (hm : P.follows .mixedOrders = true) {r : Rec} (hc : CodeOk P r) (hk : CallOk P r.call) : CodeOk P (recStep P r) := by
 intro ro fn nt c T D st o h ρ w tm df b k cs hH hT hD hb hro
 change codeStep P r ro fn nt c T D st = some o at h
 have nil : ∀ {e : Ex}, o = ⟨e, T, D, st⟩ → Arr P (lone (on b tm df (.code c :: k)) cs w) b k cs e tm df w → Ran P nt ρ st w o (lone (on b tm df (.code c :: k)) cs w) b k cs := by
  rintro e rfl ha
  exact ⟨ρ, w, tm, df, Goes.refl, hH, hT, hD, ha⟩
 unfold codeStep at h
 split at h
 ·injection h with h; exact nil h.symm (.one st_skip)
 ·injection h with h; exact nil h.symm (.one st_label)
 ·-- seq
  rename_i x y
  simp only [ob_some] at h
  obtain ⟨o1, h1, h2⟩ := h
  obtain ⟨ρ1, w1, tm1, df1, g1, H1, T1, D1, A1⟩ := hc _ _ _ _ _ _ _ _ h1 ρ w tm df b (.code y :: k) cs hH hT hD hb hro
  obtain ⟨e1, t1, d1, s1⟩ := o1
  change e1.thenO ⟨e1, t1, d1, s1⟩ (r.code ro fn nt y t1 d1 s1) = some o at h2
  cases e1 with
  | normal =>
   obtain ⟨ρ2, w2, tm2, df2, g2, H2, T2, D2, A2⟩ := hc _ _ _ _ _ _ _ _ h2 ρ1 w1 tm1 df1 b k cs H1 T1 D1 hb (hro.mono g1.le)
   exact ⟨ρ2, w2, tm2, df2, g1.trans g2, H2, T2, D2, A2.of_steps (.head st_seq A1)⟩
  | exit id =>
   injection h2 with h2; subst h2
   exact ⟨ρ1, w1, tm1, df1, g1, H1, T1, D1, Arr.of_steps (.one st_seq) (Arr.bind (fun _ => rfl) A1 (by simp))⟩
  | ret =>
   injection h2 with h2; subst h2
   exact ⟨ρ1, w1, tm1, df1, g1, H1, T1, D1, Arr.of_steps (.one st_seq) (Arr.bind (fun _ => rfl) A1 (by simp))⟩
 ·-- cond
  rename_i x y z
  simp only [ob_some] at h
  obtain ⟨v, h1, h2⟩ := h
  have hv := evT_sound hT _ _ h1
  split at h2
  rotate_left
  ·cases h2
  rename_i t
  obtain ⟨u, hu⟩ : ∃ u, evT tm x = u := ⟨_, rfl⟩
  rw [hu] at hv
  cases hv
  cases t with
  | true =>
   obtain ⟨ρ1, w1, tm1, df1, g1, H1, T1, D1, A1⟩ := hc _ _ _ _ _ _ _ _ h2 ρ w tm df b k cs hH hT hD hb hro
   exact ⟨ρ1, w1, tm1, df1, g1, H1, T1, D1, A1.of_steps (.one (st_cond hu))⟩
  | false =>
   obtain ⟨ρ1, w1, tm1, df1, g1, H1, T1, D1, A1⟩ := hc _ _ _ _ _ _ _ _ h2 ρ w tm df b k cs hH hT hD hb hro
   exact ⟨ρ1, w1, tm1, df1, g1, H1, T1, D1, A1.of_steps (.one (st_cond hu))⟩
 ·-- block
  rename_i id y
  rw [om_some] at h
  obtain ⟨o1, h1, h2⟩ := h
  obtain ⟨ρ1, w1, tm1, df1, g1, H1, T1, D1, A1⟩ := hc _ _ _ _ _ _ _ _ h1 ρ w tm df b (.inBlock id :: k) cs hH hT hD hb hro
  obtain ⟨e1, t1, d1, s1⟩ := o1
  cases e1 with
  | normal =>
   change (⟨.normal, t1, d1, s1⟩ : Out) = o at h2
   subst h2
   exact ⟨ρ1, w1, tm1, df1, g1, H1, T1, D1, Steps.head st_block (Steps.trans A1 (.one st_inBlock))⟩
  | exit i =>
   change ifb (Nat.beq i id) (⟨.normal, t1, d1, s1⟩ : Out) ⟨.exit i, t1, d1, s1⟩ = o at h2
   obtain ⟨k2, q1, q2⟩ := A1
   simp only [exitTo] at q1
   by_cases e : i = id
   ·subst e
    rw [beq_t rfl, ifb_true] at h2; subst h2
    simp only [beq_self_eq_true, if_true] at q1
    exact ⟨ρ1, w1, tm1, df1, g1, H1, T1, D1, Steps.head st_block (q2.trans (.one (st_exit q1)))⟩
   ·rw [beq_f e, ifb_false] at h2; subst h2
    rw [if_neg (by simp; exact fun q => e q.symm)] at q1
    exact ⟨ρ1, w1, tm1, df1, g1, H1, T1, D1, k2, q1, .head st_block q2⟩
  | ret =>
   change (⟨.ret, t1, d1, s1⟩ : Out) = o at h2
   subst h2
   obtain ⟨k2, q2⟩ := A1
   exact ⟨ρ1, w1, tm1, df1, g1, H1, T1, D1, k2, .head st_block q2⟩
 ·-- loop
  rename_i y
  simp only [ob_some] at h
  obtain ⟨o1, h1, h2⟩ := h
  obtain ⟨ρ1, w1, tm1, df1, g1, H1, T1, D1, A1⟩ := hc _ _ _ _ _ _ _ _ h1 ρ w tm df b (.inLoop y :: k) cs hH hT hD hb hro
  obtain ⟨e1, t1, d1, s1⟩ := o1
  change e1.thenO ⟨e1, t1, d1, s1⟩ (r.code ro fn nt (.loop y) t1 d1 s1) = some o at h2
  cases e1 with
  | normal =>
   obtain ⟨ρ2, w2, tm2, df2, g2, H2, T2, D2, A2⟩ := hc _ _ _ _ _ _ _ _ h2 ρ1 w1 tm1 df1 b k cs H1 T1 D1 hb (hro.mono g1.le)
   exact ⟨ρ2, w2, tm2, df2, g1.trans g2, H2, T2, D2, Arr.of_steps (.head st_loop (Steps.trans A1 (.one st_inLoop))) (Arr.cut st_loop A2)⟩
  | exit id =>
   injection h2 with h2; subst h2
   exact ⟨ρ1, w1, tm1, df1, g1, H1, T1, D1, Arr.of_steps (.one st_loop) (Arr.bind (fun _ => rfl) A1 (by simp))⟩
  | ret =>
   injection h2 with h2; subst h2
   exact ⟨ρ1, w1, tm1, df1, g1, H1, T1, D1, Arr.of_steps (.one st_loop) (Arr.bind (fun _ => rfl) A1 (by simp))⟩
 ·-- scope
  rename_i y
  obtain ⟨ρ1, w1, tm1, df1, g1, H1, T1, D1, A1⟩ := hc _ _ _ _ _ _ _ _ h ρ w tm df b (.inScope y :: k) cs hH hT hD hb hro
  obtain ⟨e1, t1, d1, s1⟩ := o
  refine ⟨ρ1, w1, tm1, df1, g1, H1, T1, D1, Arr.of_steps (.one st_scope) ?_⟩
  cases e1 with
  | normal => exact Steps.trans A1 (.one st_inScope)
  | exit id => exact Arr.bind (fun _ => rfl) A1 (by simp)
  | ret => exact Arr.bind (fun _ => rfl) A1 (by simp)
 ·rename_i id
  injection h with h; exact nil h.symm ⟨k, rfl, Steps.refl _ _⟩
 ·injection h with h; exact nil h.symm ⟨k, Steps.refl _ _⟩
 ·-- region
  rename_i id ops draw
  rw [om_some] at h
  obtain ⟨m, h1, rfl⟩ := h
  cases draw with
  | false =>
   change opsRun P r ro.isNone nt ops.toList ops.toList T D st = some m at h1
   obtain ⟨ρ1, w1, tm1, df1, g1, H1, T1, D1, A1⟩ := ops_sound (ops := ops) (b := b) hc hk (cd := ro.isNone) (nt := nt) (fun q => hro.isNone q) k cs ops.toList 0 (List.range ops.size) T D st m h1
    (by simp) (fun j hj => by simp) ρ w tm df hH hT hD
   exact ⟨ρ1, w1, tm1, df1, g1, H1, T1, D1, Steps.head st_region A1⟩
  | true =>
   change drawRun P r nt ops.toList T D st = some m at h1
   obtain ⟨ρ1, w1, tm1, df1, g1, H1, T1, D1, A1⟩ := draw_sound hm (r := fun _ => r) (fun _ => hc) (fun _ => hk) h1 hH hT hD (b := b) id k cs
   exact ⟨ρ1, w1, tm1, df1, g1, H1, T1, D1, A1⟩
 ·-- a loop over a function
  rename_i g ps asl body
  simp only [ob_some] at h
  obtain ⟨gv, h1, q, h2, h3⟩ := h
  have hg := evT_sound hT _ _ h1
  unfold rangeA at h3
  split at h3
  rotate_left
  ·cases h3
  rename_i f first cap
  simp only [ob_some] at h3
  obtain ⟨p, h4, lp, h5, h6⟩ := h3
  obtain ⟨u, hu⟩ : ∃ u, evT tm g = u := ⟨_, rfl⟩
  rw [hu] at hg
  cases hg with
  | func hf hcap =>
   rename_i fa ca
   obtain ⟨ρ1, w1, mark, dL, G1, H1, D1, hd, hen⟩ := loopPlace_sound (P := P) h2 hH hD hro fn tm ps asl body
   subst hb
   obtain ⟨H2, G2⟩ := H1.new (.loop { state := .ready, pending := none, fn := b.fn, nt, tmps := T, params := ps.toList, assign := asl, body, defers := q.d }) ⟨w1.heap.size, 0, 0⟩
    (.loop { state := .ready, pending := none, fn := b.fn, tmps := tm, params := ps, assign := asl, body, defers := dL.blk }) rfl
    ⟨tm, dL, rfl, (hT.mono G1.le).mono (Names.set_le _ H1.fresh), Names.set_le _ H1.fresh _ _ hd⟩
   have hl := Names.set_same ρ1 q.st.next (⟨w1.heap.size, 0, 0⟩ : Loc)
   obtain ⟨hce, hcall⟩ := hk _ _ _ _ _ (show r.call f (first ++ [AV.yield q.st.next] ++ cap) _ = some (p.1, p.2) from h4)
   have hargs : VRs (ρ1.set q.st.next ⟨w1.heap.size, 0, 0⟩) (first ++ [AV.yield q.st.next] ++ cap) (fa ++ [.func (.yield w1.heap.size) #[] #[]] ++ ca) :=
    (((hf.mono G1.le).mono G2.le).append (.cons (.yield hl) .nil)).append ((hcap.mono G1.le).mono G2.le)
   have hrun : (do let d ← resolve (evT tm) { callee := .value g, args := #[.const (.func (.yield w1.heap.size) #[] #[])], argTypes := #[] } 0; invoke d.target d.args : Sem Next).run P
     (worldNew w1 (.loop { state := .ready, pending := none, fn := b.fn, tmps := tm, params := ps, assign := asl, body, defers := dL.blk })) =
     .ok (.enter f ⟨fa ++ [.func (.yield w1.heap.size) #[] #[]] ++ ca⟩) (worldNew w1 (.loop { state := .ready, pending := none, fn := b.fn, tmps := tm, params := ps, assign := asl, body, defers := dL.blk })) := by
    rw [← hce]
    have hres : (resolve (evT tm) { callee := .value g, args := #[.const (.func (.yield w1.heap.size) #[] #[])], argTypes := #[] } 0) = pure { target := .fn (.func f) ⟨ca⟩, args := ⟨fa ++ [.func (.yield w1.heap.size) #[] #[]]⟩ } := by
     have hcv : evT tm (.const (.func (.yield w1.heap.size) #[] #[])) = .func (.yield w1.heap.size) #[] #[] := rfl
     simp [resolve, hu, hcv, Deferred.ofValue]
    rw [hres]
    simp [invoke]
   obtain ⟨ρ3, w3, v3, fr3, G3, H3, V3, s3, l3⟩ := hcall _ _ _ (on b tm (mark ++ df) (.inRangeFunc w1.heap.size :: k) :: cs) H2 hargs
   have hl3 := G3.le _ _ hl
   have G123 := (G1.trans G2).trans G3
   have toEnd : Steps P (lone (on b tm df (.code (.rangeFunc g ps asl body) :: k)) cs w) (lone (on b tm (mark ++ df) (.endRangeFunc w1.heap.size :: k)) cs w3) :=
    .head (st_rangeFunc hen hrun) (s3.trans (.one (st_leave l3)))
   have hT3 : TR ρ3 nt T tm := hT.mono G123.le
   have hD3 : DRs ρ3 q.defers (mark ++ df) := D1.mono (Names.le_trans G2.le G3.le)
   split at h6
   ·cases h6
   rename_i hst
   obtain ⟨tm4, d4, n1, n2, n3, H4, G4⟩ := put_loop H3 h5 hl3 .exhausted lp.pending
   have hend : (Instr.endLoop w1.heap.size).run P w3 = .ok lp.pending { w3 with heap := w3.heap.setIfInBounds w1.heap.size (.loop { state := .exhausted, pending := lp.pending, fn := lp.fn, tmps := tm4, params := ⟨lp.params⟩, assign := lp.assign, body := lp.body, defers := d4.blk }) } := by
    have hs : ¬ lp.state = LoopState.busy := fun q => hst q
    have n1' : w3.heap[w1.heap.size]? = some (.loop { state := lp.state, pending := lp.pending, fn := lp.fn, tmps := tm4, params := ⟨lp.params⟩, assign := lp.assign, body := lp.body, defers := d4.blk }) := n1
    simp [Instr.endLoop, Instr.getLoop, getObj, setObj, Sem.run, n1', hs]
   have toEnd2 := toEnd.trans (.one (st_endRange (b := b) (tm := tm) (df := mark ++ df) (k := k) (cs := cs) hend))
   split at h6
   ·rename_i hp
    injection h6 with h6; subst h6
    refine ⟨ρ3, _, tm, mark ++ df, G123.trans G4, H4, hT3, hD3, ?_⟩
    rw [hp] at toEnd2 ⊢
    exact toEnd2
   ·rename_i c hp
    rw [om_some] at h6
    obtain ⟨e, he, rfl⟩ := h6
    refine ⟨ρ3, _, tm, mark ++ df, G123.trans G4, H4, hT3, hD3, ?_⟩
    rw [hp] at toEnd2 ⊢
    rcases jumpA_some he with ⟨id, rfl, rfl⟩ | ⟨rfl, rfl⟩
    ·exact ⟨k, rfl, toEnd2⟩
    ·exact ⟨k, toEnd2⟩
 ·cases h
end Go.Det
namespace Go.Det
variable {P : Program}
theorem ofList_get {α : Type} : ∀ (l : List α) (T : Tr α) (k t : Nat), (Tr.ofList T k l).get t = if k ≤ t ∧ t < k + l.length then l[t - k]? else T.get t
 | [], T, k, t => by
  rw [Tr.ofList, if_neg (by simp only [List.length_nil]; omega)]
 | x :: l, T, k, t => by
  rw [Tr.ofList, ofList_get l, Tr.get_set]
  by_cases e : t = k
  ·subst e
   rw [if_neg (by omega), if_pos rfl, if_pos (by simp)]
   simp
  ·rw [if_neg e]
   by_cases h : k + 1 ≤ t ∧ t < k + 1 + l.length
   ·rw [if_pos h, if_pos (by simp; omega)]
    rw [show t - k = (t - (k + 1)) + 1 by omega]
    simp
   ·rw [if_neg h, if_neg (by simp; omega)]
theorem args_TR {ρ : Names} {args : List AV} {args' : List Value} (h : VRs ρ args args') (nt : Nat) : TR ρ nt (Tr.ofList .leaf 0 args) ((⟨args'⟩ : Array Value) ++ Array.replicate (nt - (⟨args'⟩ : Array Value).size) Go.undef) := by
 refine ⟨by simp; omega, fun t v ht => ?_⟩
 rw [ofList_get] at ht
 split at ht
 ·rename_i hlt
  obtain ⟨v', h1, h2⟩ := h.get ht
  refine ⟨v', ?_, h2⟩
  have hl := h.length
  rw [Array.getElem?_append]
  simp only [Nat.sub_zero] at h1
  rw [if_pos (by simp; omega)]
  simpa using h1
 ·simp [Tr.get] at ht
def bk (b : Frame) (tm : Array Value) (df : List Deferred) (todo : List Item) : Frame := { on b tm df todo with mode := .returning }
theorem st_ret {b : Frame} (hb : b.roundOf = none) {tm : Array Value} {df : List Deferred} {k : List Item} {cs : List Frame} {w : World} :
  step P (lone (on b tm df (.code .ret :: k)) cs w) = .next (lone (bk b tm df (.code .ret :: k)) cs w) := step_lone_go (by simp [stepG, stepG.exec, on, bk, hb])
theorem st_end {b : Frame} (hb : b.roundOf = none) {tm : Array Value} {df : List Deferred} {cs : List Frame} {w : World} :
  step P (lone (on b tm df []) cs w) = .next (lone (bk b tm df []) cs w) := step_lone_go (by simp [stepG, stepG.exec, on, bk, hb])
theorem defers_sound {r : Rec} (hk : CallOkD P r.dcall) {b : Frame} {tm : Array Value} {todo : List Item} {cs : List Frame} : ∀ {D : List ADef} {st st2 : St}, defersA r D st = some st2 → ∀ {ρ : Names} {w : World} {df : List Deferred}, HR ρ st w → DRs ρ D df →
  ∃ ρ' w', Goes ρ st w ρ' st2 w' ∧ HR ρ' st2 w' ∧ Steps P (lone (bk b tm df todo) cs w) (lone (bk b tm [] todo) cs w')
 | [], st, st2, h, ρ, w, df, hH, hD => by
  rw [defersA] at h
  injection h with h; subst h
  cases hD
  exact ⟨ρ, w, Goes.refl, hH, Steps.refl _ _⟩
 | .call f args :: D, st, st2, h, ρ, w, df, hH, hD => by
  rw [defersA, ob_some] at h
  obtain ⟨p, h1, h2⟩ := h
  cases hD with
  | cons hd ht =>
   rename_i d' df'
   cases hd with
   | call hv =>
    rename_i a c
    obtain ⟨hce, hcall⟩ := hk _ _ _ _ _ (show r.dcall f args st = some (p.1, p.2) from h1) .deferred
    obtain ⟨ρ1, w1, v1, fr1, G1, H1, V1, s1, l1⟩ := hcall ρ w _ (bk b tm df' todo :: cs) hH hv
    obtain ⟨ρ2, w2, G2, H2, s2⟩ := defers_sound hk (b := b) (tm := tm) (todo := todo) (cs := cs) h2 H1 (ht.mono G1.le)
    have hinv : (invoke (.fn (.func f) ⟨c⟩) ⟨a⟩).run P w = .ok (.enter f ⟨a ++ c⟩) w := by
     rw [← hce]; simp [invoke]
    have hst : step P (lone (bk b tm ({ target := .fn (.func f) ⟨c⟩, args := ⟨a⟩ } :: df') todo) cs w) = .next (lone (Frame.enter P f ⟨a ++ c⟩ .deferred) (bk b tm df' todo :: cs) w) := by
     refine step_lone_go ?_
     simp [stepG, bk, on, unwind, callDeferred, hinv]
    exact ⟨ρ2, w2, G1.trans G2, H2, .head hst (s1.trans (.head (st_leave_deferred l1 rfl) s2))⟩
 | .collected d :: D, st, st2, h, ρ, w, df, hH, hD => by
  rw [defersA, ob_some] at h
  obtain ⟨o, h1, h2⟩ := h
  split at h2
  rotate_left
  ·cases h2
  cases hD with
  | cons hd ht =>
   rename_i d' df'
   cases hd with
   | collected hL =>
    rename_i L
    obtain ⟨L', hL', hO⟩ := hH.obj _ _ h1
    obtain rfl : L' = L := by rw [hL] at hL'; injection hL' with q; exact q.symm
    have hO' : w.heap[L'.blk]? = some (.deferred (some [])) := hO
    obtain ⟨H1, G1⟩ := hH.put h1 hL (.deferred false) (.deferred none) rfl _ rfl
    obtain ⟨ρ2, w2, G2, H2, s2⟩ := defers_sound hk (b := b) (tm := tm) (todo := todo) (cs := cs) h2 H1 ht
    have htake : (Instr.takeDeferred L'.blk).run P w = .ok [] { w with heap := w.heap.setIfInBounds L'.blk (.deferred none) } := by
     simp [Instr.takeDeferred, getObj, setObj, Sem.run, hO']
    have hst : step P (lone (bk b tm ({ target := .collected L'.blk, args := #[] } :: df') todo) cs w) = .next (lone (bk b tm df' todo) cs { w with heap := w.heap.setIfInBounds L'.blk (.deferred none) }) := by
     refine step_lone_go ?_
     simp only [stepG, bk, on, unwind, Sem.runT_eq, htake, GStep.bare_after]
     simp [GStep.bare]
    exact ⟨ρ2, w2, G1.trans G2, H2, .head hst s2⟩
def resV (tm : Array Value) : ResultVar → Sem Value
 | .tmp t => pure (tm.getD t Go.undef)
 | .cell a t => do loadVar t (← asAddr (tm.getD a Go.undef))
theorem results_sound {nt : Nat} {T : Tr AV} {st : St} {ρ : Names} {w : World} {tm : Array Value} (hH : HR ρ st w) (hT : TR ρ nt T tm) : ∀ {l : List ResultVar} {vs : List AV}, resultsA P T st l = some vs →
  ∃ vs' : List Value, (l.mapM (resV tm)).run P w = .ok vs' w ∧ VRs ρ vs vs'
 | [], vs, h => by
  rw [resultsA] at h
  injection h with h; subst h
  exact ⟨[], by simp, .nil⟩
 | x :: l, vs, h => by
  rw [resultsA, ob_some] at h
  obtain ⟨v, h1, h2⟩ := h
  rw [om_some] at h2
  obtain ⟨vs1, h2, rfl⟩ := h2
  obtain ⟨vs', k1, k2⟩ := results_sound hH hT h2
  have hx : ∃ v', (resV tm x).run P w = .ok v' w ∧ VR ρ v v' := by
   cases x with
   | tmp t =>
    obtain ⟨v', q1, q2⟩ := hT.2 t v h1
    exact ⟨v', by simp [resV, q1], q2⟩
   | cell a t =>
    rw [resultA, ob_some] at h1
    obtain ⟨pv, h3, h4⟩ := h1
    obtain ⟨p', q1, q2⟩ := hT.2 a pv h3
    split at h4
    ·rename_i bb o
     cases q2 with
     | ptr hL =>
      obtain ⟨v', q3, q4⟩ := load_sound (P := P) hH h4 hL
      exact ⟨v', by simp [resV, q1, asAddr, q3], q4⟩
    ·cases h4
  obtain ⟨v', q1, q2⟩ := hx
  refine ⟨v' :: vs', ?_, .cons q2 k2⟩
  rw [List.mapM_cons, Sem.run_bind, q1, Result.andThen_ok, Sem.run_bind, k1]
  rfl
theorem oneOrTuple_sound {ρ : Names} {vs : List AV} {vs' : List Value} (h : VRs ρ vs vs') : VR ρ (oneOrTuple vs) (if h : (⟨vs'⟩ : Array Value).size = 1 then (⟨vs'⟩ : Array Value)[0] else .tuple ⟨vs'⟩) := by
 cases h with
 | nil => exact .tuple .nil
 | cons hv t =>
  cases t with
  | nil => exact hv
  | cons hv' t' =>
   rw [dif_neg (by simp)]
   exact .tuple (.cons hv (.cons hv' t'))
theorem CallOkD.normal {call : FuncId → List AV → St → Option (AV × St)} (h : CallOkD P call) : CallOk P call := fun f args st v st' hr => h f args st v st' hr .normal
theorem call_sound {r : Rec} (hc : CodeOk P r) (hk : CallOkD P r.dcall) : CallOkD P (callStep P r) := by
 intro f args st v st' h kind
 change callStep P r f args st = some (v, st') at h
 unfold callStep at h
 simp only [ob_some, ifb_none, ifb_none'] at h
 obtain ⟨fn, h1, h2, c, h3, h4, o, h5, h6⟩ := h
 have hen : ∀ (X : Array Value) (w : World), (callFunc f X).run P w = .ok (.enter f X) w := by
  intro X w
  have h2' : ¬ fn.name = "runtime.NumGoroutine" := by simpa using h2
  simp [callFunc, h1, h2', h3]
 refine ⟨hen, fun ρ w args' cs hH hA => ?_⟩
 have hfr : Frame.enter P f ⟨args'⟩ kind = on (Frame.enter P f ⟨args'⟩ kind) ((⟨args'⟩ : Array Value) ++ Array.replicate (fn.ntmps - (⟨args'⟩ : Array Value).size) Go.undef) [] [.code c] := by
  simp [Frame.enter, on, h1, h3]
 generalize hb : Frame.enter P f ⟨args'⟩ kind = b at hfr
 have hbf : b.fn = f := by rw [← hb]; rfl
 have hbk : b.kind = kind := by rw [← hb]; rfl
 have hbr : b.roundOf = none := by rw [← hb]; rfl
 obtain ⟨ρ1, w1, tm1, df1, G1, H1, T1, D1, A1⟩ := hc _ _ _ _ _ _ _ _ h5 ρ w _ [] b [] cs hH (args_TR hA fn.ntmps) .nil hbf (by rw [hbr]; exact .none)
 rw [← hfr] at A1
 have fin : ∀ todo : List Item, Steps P (lone b cs w) (lone (bk b tm1 df1 todo) cs w1) → (∃ st2, defersA r o.defers o.st = some st2 ∧ ∃ vs, resultsA P o.tmps st2 fn.results.toList = some vs ∧ (oneOrTuple vs, st2) = (v, st')) →
   ∃ ρ' w' v' fr', Goes ρ st w ρ' st' w' ∧ HR ρ' st' w' ∧ VR ρ' v v' ∧ Steps P (lone b cs w) (lone fr' cs w') ∧ Leaves P f kind fr' v' w' := by
  rintro todo hs ⟨st2, k1, vs, k2, k3⟩
  injection k3 with k3 k4
  subst k3; subst k4
  obtain ⟨ρ2, w2, G2, H2, s2⟩ := defers_sound hk (b := b) (tm := tm1) (todo := todo) (cs := cs) k1 H1 D1
  have T2 := T1.mono G2.le
  obtain ⟨vs', q1, q2⟩ := results_sound (P := P) H2 T2 k2
  refine ⟨ρ2, w2, _, bk b tm1 [] todo, G1.trans G2, H2, oneOrTuple_sound q2, hs.trans s2, hbf, hbk, rfl, rfl, fn, h1, ?_⟩
  show (results fn tm1).run P w2 = _
  have e : results fn tm1 = (do let vs ← fn.results.mapM (resV tm1); pure (if h : vs.size = 1 then vs[0] else .tuple vs)) := rfl
  rw [e, Array.mapM_eq_mapM_toList, Sem.run_bind]
  have : (List.toArray <$> List.mapM (resV tm1) fn.results.toList).run P w2 = .ok (⟨vs'⟩ : Array Value) w2 := by
   rw [Sem.run_map, q1]; rfl
  rw [this]
  rfl
 split at h6
 ·cases h6
 rename_i hne
 simp only [ob_some, om_some] at h6
 obtain ⟨e1, t1, d1, s1⟩ := o
 cases e1 with
 | normal => exact fin [] (Steps.trans A1 (.one (st_end hbr))) h6
 | exit id => exact absurd rfl (hne id)
 | ret =>
  obtain ⟨k2, A2⟩ := A1
  exact fin _ (A2.trans (.one (st_ret hbr))) h6
theorem run_soundD (hm : P.follows .mixedOrders = true) : ∀ n, CodeOk P (run P n) ∧ CallOkD P (run P n).call ∧ CallOkD P (run P n).dcall
 | 0 => by
  refine ⟨?_, ?_, ?_⟩
  ·intro ro fn nt c T D st o h
   change none = some _ at h
   cases h
  ·intro f args st v st' h
   change none = some _ at h
   cases h
  ·intro f args st v st' h
   change none = some _ at h
   cases h
 | n + 1 => by
  obtain ⟨h1, h2, h3⟩ := run_soundD hm n
  exact ⟨code_sound hm h1 h2.normal, call_sound h1 h3, call_sound h1 h3⟩
theorem run_sound (hm : P.follows .mixedOrders = true) (n : Nat) : CodeOk P (run P n) ∧ CallOk P (run P n).call :=
 ⟨(run_soundD hm n).1, (run_soundD hm n).2.1.normal⟩
end Go.Det
namespace Go.Det
open Go.RowKit
variable {P : Program}
def noNames : Names := ⟨fun _ => none, fun _ _ => none⟩
theorem st0_HR (w : World) : HR noNames st0 w := by
 refine ⟨?_, ?_, ?_, (fun _ _ _ h => by cases h), (fun _ _ _ h => by cases h), fun g l h => by simp [st0, Tr.get] at h⟩
 ·intro b L h; cases h
 ·intro b o h; simp [st0, Tr.get] at h
 ·intro b b' o o' L L' h; simp [st0, Tr.get] at h
theorem closed (hm : P.follows .mixedOrders = true) {n f : Nat} {v : AV} {st : St} (h : (run P n).call f [] st0 = some (v, st)) (w : World) :
  Calls P f #[] w fun e w' => ∃ ρ v', e = .returned v' ∧ VR ρ v v' ∧ HR ρ st w' ∧ Goes noNames st0 w ρ st w' := by
 obtain ⟨_, hc⟩ := (run_sound hm n).2 f [] st0 v st h
 intro cs
 obtain ⟨ρ', w', v', fr', G, H, V, s, l⟩ := hc noNames w [] cs (st0_HR w) .nil
 obtain ⟨l1, l2, l3, l4, l5⟩ := l
 subst l1
 exact ⟨.returned v', w', fr', ⟨ρ', v', rfl, V, H, G⟩, s, rfl, l3, l4, l2, l5⟩
section
open Go.ChangeShapes Go.WideShapes
variable {H : Type} {enc : TypeId × Value → H}
theorem post_of_below {f : Func} {s : ChangeSpec} {apart fresh handsOn again : Bool} {W W' : World} {args : Array Value} {v : Value} {ds gs : List (DataW H)} {before pa pv : List MemPlace}
  (hW : DataW.Whole enc P f.params.toList s.vars apart W args.toList ds gs before) (hb : Below W.heap.size W W')
  (hres : ∀ (b : Nat) (sp : Nat → Bool) (hd : Bool), DataW.TrodAll enc P W' b sp hd f.resultTypes.toList (v.resultList f.resultTypes.size) (s.fn H (ds ++ gs)).results [])
  (hargs : ∀ sp : Nat → Bool, (∀ p ∈ before, sp p.block = true) → DataW.TrodAll enc P W' 0 sp true f.params.toList args.toList (s.fn H (ds ++ gs)).args pa)
  (hvars : ∀ sp : Nat → Bool, (∀ p ∈ before, sp p.block = true) → DataW.TrodVars enc P W' sp s.vars (s.fn H (ds ++ gs)).vars pv)
  (hps : before = pa ++ pv)
  (hok : ∀ (j : Nat) (t : TypeId) (r : Value), f.resultTypes[j]? = some t → (v.resultList f.resultTypes.size)[j]? = some r → Value.okWide P W' .any 0 t r) :
  s.post enc P f apart fresh handsOn again W args v W' := by
 have hold : ∀ p ∈ before, (fun b => decide (b < W.heap.size)) p.block = true := fun p hp => by simpa using hW.lt p hp
 have hlt := hW.lt
 refine ⟨ds, gs, before, [], pa, pv, hW, hres _ _ _, hargs _ hold, hvars _ hold, World.keptBut_mono (fun p hp => ⟨hp, ?_⟩) (hb.frame _), fun _ => ?_⟩
 ·rw [hps, List.mem_append] at hp
  exact Or.inr hp
 ·obtain ⟨_, _, _, _, _, hz, hn⟩ := hW
  refine ⟨hok, _, _, ([] ++ pa) ++ pv, ⟨[] ++ pa, pv, trodAll_append (hargs _ (fun _ _ => rfl)) (hres _ _ _), hvars _ (fun _ _ => rfl), rfl, ?_, ?_⟩, ?_⟩
  ·intro b off hp
   have hp' : MemPlace.cell b off ∈ before := by rw [hps]; simpa using hp
   rw [hb.frozen (hlt _ hp')]
   exact hz b off hp'
  ·intro ha
   have := hn ha
   rw [hps] at this
   simpa using this
  ·intro p hp _
   rw [hps]
   simpa using hp
end
end Go.Det
namespace Go.Det
open Go.RowKit
variable {P : Program}
theorem HR.beside {ρ : Names} {st : St} {w w' : World} (h : HR ρ st w) (hb : Below w.heap.size w w') (hd : w.drawn ≤ w'.drawn) : HR ρ st w' ∧ Goes ρ st w ρ st w' := by
 have same : ∀ k, k < w.heap.size → w'.heap[k]? = w.heap[k]? := hb.block
 refine ⟨⟨fun b L hL => ⟨(h.lt b L hL).1, Nat.lt_of_lt_of_le (h.lt b L hL).2 hb.size⟩, fun b o hbo => ?_, h.inj, fun a i v hv => ?_, h.sep, h.glob⟩,
  ⟨Names.le_refl _, Nat.le_refl _, fun _ _ h => .inl h, hb.size, fun b o L h1 h2 _ => ⟨b, o, L, h1, h2, rfl⟩, fun x hx _ => same x hx, hb.os, hb.tape, hb.output, hd, fun _ _ _ h => .inl h⟩⟩
 ·obtain ⟨L, hL, hO⟩ := h.obj b o hbo
  exact ⟨L, hL, by rw [same _ (h.lt _ _ hL).2]; exact hO⟩
 ·rw [cell_of (same a (h.mem_lt hv))]; exact h.mem _ _ _ hv
theorem CallS.closed {f : FuncId} {b : Bool} {st1 : St} (h : CallS P f [] st0 (.bool b) st1) (st : St) : CallS P f [] st (.bool b) st := by
 refine ⟨h.1, fun ρ w args' cs hH hA => ?_⟩
 cases hA
 obtain ⟨ρ1, w1, v', fr', G, H, V, s, l⟩ := h.2 noNames w [] cs (st0_HR w) .nil
 cases V
 have hb : Below w.heap.size w w1 := ⟨G.os, G.tape, G.output, G.size, fun k hk => G.same k hk fun b o L hb => by simp [st0, Tr.get] at hb⟩
 obtain ⟨a, c⟩ := hH.beside hb G.drawn
 exact ⟨ρ, w1, _, fr', c, a, .bool b, s, l⟩
theorem CallS.calls {f : FuncId} {args : List AV} {st st' : St} {v : AV} (h : CallS P f args st v st') {ρ : Names} {w : World} {args' : List Value} (hH : HR ρ st w) (hA : VRs ρ args args') :
  Calls P f ⟨args'⟩ w fun e w' => ∃ ρ' v', e = .returned v' ∧ VR ρ' v v' ∧ HR ρ' st' w' ∧ Goes ρ st w ρ' st' w' := by
 intro cs
 obtain ⟨ρ', w', v', fr', G, H, V, s, l1, l3, l4, l2, l5⟩ := h.2 ρ w args' cs hH hA
 subst l1
 exact ⟨.returned v', w', fr', ⟨ρ', v', rfl, V, H, G⟩, s, rfl, l4, l2, l3, l5⟩
end Go.Det
namespace Go.Det
open Go.RowKit Go.ChangeShapes Go.WideShapes
variable {P : Program}
def frozenAll (w : World) : Names := ⟨fun _ => none, fun a i => w.cell? ⟨a, i, none⟩⟩
theorem frozenAll_HR (w : World) (b : Bool) : HR (frozenAll w) { heap := .leaf, next := 0, vm := b } w :=
 ⟨(fun b L h => by cases h), (fun b o h => by simp [Tr.get] at h), (fun b b' o o' L L' h => by simp [Tr.get] at h), (fun _ _ _ h => h), (fun a i v h b o L hb => by simp [Tr.get] at hb), (fun g l h => by simp [Tr.get] at h)⟩
structure ArgOf (P : Program) (t : TypeId) {α : Type} (cells : α → List AV) (ok : α → Prop) : Prop where
 len : ∀ a, (cells a).length = P.cellsOf t
 scal : ∀ a, allScalar (cells a) = true
 abs : ∀ {H : Type} (enc : TypeId × Value → H) (w : World) (n : Nat) (cs : List Value) (x : DataW H × List MemPlace), DataW.trod enc P w 0 (fun _ => true) true n t cs = some x → ∃ a, ok a ∧ VRs (frozenAll w) (cells a) cs
theorem abs_int {t : TypeId} {k : IntKind} (ht : P.underlying t = some (.int k)) (hc : P.cellsOf t = 1) : ArgOf P t (fun x : Int => [AV.int k x]) (fun x => (Lit.int k x).wf = true) :=
 ⟨fun _ => hc.symm, fun _ => rfl, fun enc w n cs x h => by
  obtain ⟨z, rfl, _, hw⟩ := DataW.trod_int ht h
  exact ⟨z, hw, .cons (.int _ _) .nil⟩⟩
theorem abs_bool {t : TypeId} (ht : P.underlying t = some .bool) (hc : P.cellsOf t = 1) : ArgOf P t (fun x : Bool => [AV.bool x]) (fun _ => True) :=
 ⟨fun _ => hc.symm, fun _ => rfl, fun enc w n cs x h => by
  obtain ⟨z, rfl, _⟩ := DataW.trod_bool ht h
  exact ⟨z, trivial, .cons (.bool _) .nil⟩⟩
theorem abs_string {t : TypeId} (ht : P.underlying t = some .string) (hc : P.cellsOf t = 1) : ArgOf P t (fun x : ByteArray => [AV.str x]) (fun x => x.size ≤ maxLen) :=
 ⟨fun _ => hc.symm, fun _ => rfl, fun enc w n cs x h => by
  obtain ⟨z, rfl, _, hz⟩ := DataW.trod_string ht h
  exact ⟨z, hz, .cons (.str _) .nil⟩⟩
structure ArgFs (P : Program) (fs : List Field) (o n : Nat) {α : Type} (cells : α → List AV) (ok : α → Prop) : Prop where
 len : ∀ a, (cells a).length = n
 scal : ∀ a, allScalar (cells a) = true
 abs : ∀ {H : Type} (enc : TypeId × Value → H) (w : World) (m : Nat) (cs : List Value), (∀ f ∈ fs, ∃ x, DataW.trod enc P w 0 (fun _ => true) true m f.type ((cs.drop f.offset).take (P.cellsOf f.type)) = some x) →
  ∃ a, ok a ∧ VRs (frozenAll w) (cells a) ((cs.drop o).take n)
theorem argFs_nil (o : Nat) : ArgFs P [] o 0 (fun _ : Unit => []) (fun _ => True) :=
 ⟨fun _ => rfl, fun _ => rfl, fun enc w m cs _ => ⟨(), trivial, by simpa using VRs.nil⟩⟩
theorem argFs_cons {f : Field} {fs : List Field} {o k n : Nat} {α β : Type} {c : α → List AV} {ok : α → Prop} {c' : β → List AV} {ok' : β → Prop} (ho : f.offset = o) (hk : P.cellsOf f.type = k)
  (h : ArgOf P f.type c ok) (h' : ArgFs P fs (o + k) n c' ok') : ArgFs P (f :: fs) o (k + n) (fun a : α × β => c a.1 ++ c' a.2) (fun a => ok a.1 ∧ ok' a.2) := by
 refine ⟨fun a => by simp [h.len, h'.len, hk], fun a => allScalar_append (h.scal _) (h'.scal _), fun enc w m cs hx => ?_⟩
 obtain ⟨x, hx0⟩ := hx f (by simp)
 obtain ⟨a, ha, hv⟩ := h.abs enc w m _ _ hx0
 obtain ⟨b, hb, hv'⟩ := h'.abs enc w m cs fun g hg => hx g (by simp [hg])
 refine ⟨(a, b), ⟨ha, hb⟩, ?_⟩
 rw [ho, hk] at hv
 have e : (cs.drop o).take (k + n) = (cs.drop o).take k ++ (cs.drop (o + k)).take n := by
  rw [List.take_add, List.drop_drop]
 rw [e]; exact hv.append hv'
theorem argFs_on {f : Field} {fs : List Field} {o k n m : Nat} {α β : Type} {c : α → List AV} {ok : α → Prop} {c' : β → List AV} {ok' : β → Prop} (hm : m = k + n) (ho : f.offset = o) (hk : P.cellsOf f.type = k)
  (h : ArgOf P f.type c ok) (h' : ArgFs P fs (o + k) n c' ok') : ArgFs P (f :: fs) o m (fun a : α × β => c a.1 ++ c' a.2) (fun a => ok a.1 ∧ ok' a.2) := by
 subst hm; exact argFs_cons ho hk h h'
theorem abs_struct {t : TypeId} {fs : Array Field} {α : Type} {c : α → List AV} {ok : α → Prop} (ht : P.underlying t = some (.struct fs)) (h : ArgFs P fs.toList 0 (P.cellsOf t) c ok) : ArgOf P t c ok := by
 refine ⟨h.len, h.scal, fun enc w n cs x hx => ?_⟩
 obtain ⟨xs, m, rfl, _, hl, hlen, hf⟩ := DataW.trod_struct ht hx
 obtain ⟨a, ha, hv⟩ := h.abs enc w m cs fun f hfm => by
  obtain ⟨i, hi, e⟩ := List.getElem_of_mem hfm
  have hi' : i < xs.length := by rw [hlen]; simpa using hi
  have := hf i f (by rw [← Array.getElem?_toList, List.getElem?_eq_getElem hi, e])
  exact ⟨_, this.trans (List.getElem?_eq_getElem hi')⟩
 refine ⟨a, ha, ?_⟩
 rw [List.drop_zero, List.take_of_length_le (by omega)] at hv
 exact hv
inductive SliceV (β : Type) where
 | nil
 | mk (l : List β) (cap : Nat)
def SliceV.list {β : Type} : SliceV β → List β
 | .nil => []
 | .mk l _ => l
def SliceV.av {β : Type} (c : β → List AV) (e : Nat) : SliceV β → AV
 | .nil => .vs [] 0 0 true none e
 | .mk l cap => .vs (l.flatMap c) l.length cap true none e
def SliceV.ok {β : Type} (ok : β → Prop) : SliceV β → Prop
 | .nil => True
 | .mk l cap => (∀ b ∈ l, ok b) ∧ l.length ≤ cap ∧ cap ≤ maxLen
theorem flatMap_len {β : Type} {c : β → List AV} {k : Nat} (h : ∀ b, (c b).length = k) : ∀ l : List β, (l.flatMap c).length = l.length * k
 | [] => by simp
 | b :: l => by simp [flatMap_len h l, h, Nat.add_mul]; omega
theorem flatMap_scal {β : Type} {c : β → List AV} (h : ∀ b, allScalar (c b) = true) : ∀ l : List β, allScalar (l.flatMap c) = true
 | [] => rfl
 | b :: l => by rw [List.flatMap_cons]; exact allScalar_append (h b) (flatMap_scal h l)
theorem addr_spot {w : World} {a : Addr} {v : Value} (h : w.cell? a = some v) : a = ⟨a.block, a.off, none⟩ := by
 have hspot : a.spot = none := by
  cases hsp : a.spot with
  | none => rfl
  | some s =>
   simp only [World.cell?] at h
   split at h
   ·simp [hsp] at h
   ·cases h
 cases a
 simp only at hspot
 subst hspot
 rfl
theorem abs_slice {t e : TypeId} {β : Type} {c : β → List AV} {ok : β → Prop} {k : Nat} (ht : P.underlying t = some (.slice e)) (hc : P.cellsOf t = 1) (hk : P.cellsOf e = k) (hpos : 0 < k) (h : ArgOf P e c ok) :
  ArgOf P t (fun s : SliceV β => [s.av c k]) (SliceV.ok ok) := by
 refine ⟨fun _ => hc.symm, fun s => by cases s <;> rfl, fun {H} enc w n cs x hx => ?_⟩
 rcases DataW.trod_slice ht hx with ⟨rfl, _⟩ | ⟨a, len, cap, elems, rest, m, rfl, rfl, _, hb, hl, hm, hel, hi, hsp, _⟩
 ·exact ⟨.nil, trivial, .cons .vsNil .nil⟩
 ·obtain ⟨hrl, hri⟩ := hsp rfl
  rw [hk] at hi hri
  -- the elements, one by one
  have hone : ∀ i, i < len → ∃ (cs' : List Value) (b : β), w.cells? 0 (a.add (i * k)) k = some cs' ∧ ok b ∧ VRs (frozenAll w) (c b) cs' := by
   intro i hil
   have h1 := hi i hil
   rw [List.getElem?_eq_getElem (by omega), Option.bind_eq_some_iff] at h1
   obtain ⟨cs', h2, h3⟩ := h1
   obtain ⟨b, h4, h5⟩ := h.abs enc w m _ _ h3
   exact ⟨cs', b, h2, h4, h5⟩
  have hat : ∀ i cs', w.cells? 0 (a.add (i * k)) k = some cs' → cs'.length = k ∧ ∀ j, j < k → w.cell? ((a.add (i * k)).add j) = cs'[j]? := fun i cs' hcs =>
   let ⟨_, h1, h2⟩ := World.cells?_some hcs; ⟨h1, h2⟩
  have hspot : cap ≠ 0 → a = ⟨a.block, a.off, none⟩ := by
   intro hcap
   by_cases hlen : len = 0
   ·have h1 := hri 0 (by omega)
    rw [List.getElem?_eq_getElem (by omega), Option.bind_eq_some_iff] at h1
    obtain ⟨cs', h2, h3⟩ := h1
    obtain ⟨_, k1, k2⟩ := World.cells?_some h2
    have := k2 0 hpos
    rw [List.getElem?_eq_getElem (by omega)] at this
    have e0 : (a.add ((len + 0) * k)).add 0 = a := by subst hlen; simp [Addr.add]
    rw [e0] at this
    exact addr_spot this
   ·obtain ⟨cs', b, h2, _, _⟩ := hone 0 (by omega)
    obtain ⟨_, k1, k2⟩ := World.cells?_some h2
    have := k2 0 hpos
    rw [List.getElem?_eq_getElem (by omega)] at this
    have e0 : (a.add (0 * k)).add 0 = a := by simp [Addr.add]
    rw [e0] at this
    exact addr_spot this
  have hlist : ∀ q, q ≤ len → ∃ (l : List β) (l' : List Value), l.length = q ∧ (∀ b ∈ l, ok b) ∧ VRs (frozenAll w) (l.flatMap c) l' ∧ ∀ i v', l'[i]? = some v' → w.cell? ⟨a.block, a.off + i, none⟩ = some v' := by
   intro q
   induction q with
   | zero => intro _; exact ⟨[], [], rfl, by simp, .nil, fun i v' hv => by simp at hv⟩
   | succ q ih =>
    intro hq
    obtain ⟨l, l', h1, h2, h3, h4⟩ := ih (by omega)
    obtain ⟨cs', b, k1, k2, k3⟩ := hone q (by omega)
    obtain ⟨k4, k5⟩ := hat q cs' k1
    have ha := hspot (by omega)
    have hl' : l'.length = q * k := by rw [h3.length, flatMap_len (fun b => by rw [h.len, hk]), h1]
    refine ⟨l ++ [b], l' ++ cs', by simp [h1], ?_, ?_, ?_⟩
    ·intro b' hb'
     rcases List.mem_append.1 hb' with hb' | hb'
     ·exact h2 b' hb'
     ·simp at hb'; subst hb'; exact k2
    ·rw [List.flatMap_append]
     simpa using h3.append k3
    ·intro i v' hv
     by_cases hlt : i < l'.length
     ·rw [List.getElem?_append_left hlt] at hv; exact h4 i v' hv
     ·rw [List.getElem?_append_right (by omega)] at hv
      have hj : i - l'.length < k := by
       rw [← k4]
       rcases Nat.lt_or_ge (i - l'.length) cs'.length with hh | hh
       ·exact hh
       ·rw [List.getElem?_eq_none hh] at hv; cases hv
      have h6 := k5 _ hj
      rw [hv] at h6
      rw [ha] at h6
      rw [addr_add, addr_add] at h6
      rw [show a.off + i = a.off + q * k + (i - l'.length) by omega]
      exact h6
  obtain ⟨l, l', h1, h2, h3, h4⟩ := hlist len (Nat.le_refl _)
  refine ⟨.mk l cap, ⟨h2, by rw [h1]; exact hl, hm⟩, .cons ?_ .nil⟩
  have hv : VR (frozenAll w) (.vs (l.flatMap c) len cap true none k) (.slice (some a) len cap) := by
   refine .vs (blk := a.block) (off := a.off) h3 (flatMap_scal h.scal l) (by rw [flatMap_len (fun b => by rw [h.len, hk]), h1]) hl (Nat.le_refl _) (fun _ => rfl) ?_ (fun b hb => by cases hb)
   by_cases hcap : cap = 0
   ·exact .inl hcap
   ·exact .inr ⟨hspot hcap, fun i v' hv => h4 i v' hv⟩
  show VR (frozenAll w) (.vs (l.flatMap c) l.length cap true none k) (.slice (some a) len cap)
  rw [h1]; exact hv
theorem arg_one {ρ : Names} {a : AV} {v : Value} (h : VRs ρ [a] v.cells.toList) (hv : ∀ cs, v ≠ .agg cs) : VR ρ a v := by
 cases v
 case agg cs => exact absurd rfl (hv cs)
 all_goals
  simp only [Value.cells] at h
  cases h with
  | cons h _ => exact h
theorem law_calls {f : FuncId} {args : List AV} {st' : St} {b : Bool} (h : CallS P f args { heap := .leaf, next := 0, vm := b } (.bool true) st') {w : World} {args' : List Value} (hA : VRs (frozenAll w) args args') :
  Calls P f ⟨args'⟩ w fun e w' => e = .returned (.bool true) ∧ Below w.heap.size w w' := by
 refine (h.calls (frozenAll_HR w b) hA).mono ?_
 rintro e w' ⟨ρ, v', rfl, V, H, G⟩
 cases V
 exact ⟨rfl, G.os, G.tape, G.output, G.size, fun k hk => G.same k hk fun b o L hb => by simp [Tr.get] at hb⟩
theorem CallS.closed_ran (hm : P.follows .mixedOrders = true) {n f : Nat} (h : answersTrue ((run P n).call f [] st0) = true) (st : St) : CallS P f [] st (.bool true) st := by
 unfold answersTrue at h
 split at h
 ·rename_i st1 hr
  exact CallS.closed ((run_sound hm n).2 f [] st0 _ st1 hr) st
 ·cases h
theorem trodAll_stays {H : Type} {enc : TypeId × Value → H} (hl : laidOutB P = true) {W W' : World} (hb : Below W.heap.size W W') (sp : Nat → Bool) : ∀ {ts : List TypeId} {vs : List Value} {ds : List (DataW H)} {p : List MemPlace},
  (∀ t ∈ ts, P.readableRec t = true ∧ t < P.types.size) → DataW.TrodAll enc P W 0 (fun _ => true) true ts vs ds p → (∀ x ∈ p, x.block < W.heap.size) → (∀ x ∈ p, sp x.block = true) → DataW.TrodAll enc P W' 0 sp true ts vs ds p
 | [], vs, ds, p, _, h, _, _ => by
  obtain ⟨rfl, rfl, rfl⟩ := trodAll_nil h
  exact rfl
 | t :: ts, vs, ds, p, ht, h, hlt, hs => by
  obtain ⟨v, vs1, d, ds1, a, b, rfl, rfl, rfl, h1, h2⟩ := trodAll_cons h
  have ht0 := ht t (by simp)
  exact ⟨a, b, WideElems.Trod_stays hl ht0.1 ht0.2 h1 (fun x hx => hb.same (hlt x (by simp [hx]))) (fun x hx => hs x (by simp [hx])),
   trodAll_stays hl hb sp (fun t' ht' => ht t' (by simp [ht'])) h2 (fun x hx => hlt x (by simp [hx])) (fun x hx => hs x (by simp [hx])), rfl⟩
end Go.Det
