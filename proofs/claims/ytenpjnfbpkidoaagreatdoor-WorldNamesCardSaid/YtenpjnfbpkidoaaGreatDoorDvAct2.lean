/- copy, clear; the law of all operations. -/
import Derived.Test.YtenpjnfbpkidoaaGreatDoorDvAct
import Derived.Lib.ConvBytes
set_option linter.unusedVariables false
set_option linter.unusedSimpArgs false
namespace Go.Det
variable {P : Program} {ρ : Names}

theorem lenA_slice {d : AV} {k : Nat} (h : lenA d = some k) {d' : Value} (hd : VR ρ d d') (hs : ∀ s, d ≠ .str s) : ∃ base cap, d' = .slice base k cap := by
  unfold lenA at h
  split at h
  · injection h with h; subst h; cases hd <;> exact ⟨_, _, rfl⟩
  · injection h with h; subst h; cases hd <;> exact ⟨_, _, rfl⟩
  · exact absurd rfl (hs _)
  · injection h with h; subst h; cases hd <;> exact ⟨_, _, rfl⟩
  · cases h

theorem copy_sound {st st' : St} {w : World} (hH : HR ρ st w) {dT ty : TypeId} {d s v : AV} {d' s' : Value} (h : copyA P st dT d s = some (v, st')) (hd : VR ρ d d') (hs : VR ρ s s')
    {A : Array TypeId} {X : Array Value} (hA : A[0]? = some dT) (hX : X[0]? = some d') (hX1 : X[1]? = some s') : Does P ρ st w v st' (Builtin.copy_ A ty X) := by
  unfold copyA at h
  split at h
  rotate_left
  · cases h
  rename_i elem hu
  simp only [ob_some] at h
  obtain ⟨e, he, m, hm, k, hk, cs, hcs, h⟩ := h
  have hmin : ifb (Nat.ble m k) m k = Nat.min m k := by
    rw [ifb_eq]
    by_cases c : m ≤ k
    · rw [if_pos (ble_t c)]; exact (Nat.min_eq_left c).symm
    · rw [if_neg (by rw [ble_f (by omega)]; simp)]; exact (Nat.min_eq_right (by omega)).symm
  rw [hmin] at hcs h
  have hnm : Nat.min m k ≤ m := Nat.min_le_left _ _
  have hnk : Nat.min m k ≤ k := Nat.min_le_right _ _
  generalize hn : Nat.min m k = n at *
  obtain ⟨cs', hrun, hcr, hcl⟩ := firstCells_sound (P := P) hH hcs hs (fun x hx => by rw [hm] at hx; injection hx with hx; omega)
  have hrun0 : (Builtin.firstCells e n s').run P w = .ok ⟨cs'⟩ w := hrun w.drawn
  have hlen := lenOf_sound (P := P) hm hs w
  split at h
  · rename_i b o l cap ex e'
    rw [ifb_none] at h
    obtain ⟨he', h⟩ := h
    have he'' : e = e' := of_beq he'
    subst he''
    simp only [lenA] at hk; injection hk with hk; subst hk
    cases hd with
    | slice hL hle hcap hex hAd =>
      rename_i L a cap'
      by_cases c : n = 0
      · rw [beq_t c, ifb_true] at h
        injection h with h; injection h with h1 h2; subst h1; subst h2
        have : cs' = [] := List.length_eq_zero_iff.1 (by rw [hcr.length, hcl, c]; simp)
        subst this
        refine ⟨ρ, w, .int .i64 0, ?_, Goes.refl, hH, .int _ _⟩
        unfold Builtin.copy_
        simp only [hA, hX, hX1, Sem.run_bind, run_underlying' hu, Result.andThen_ok, hlen, run_sizeOf' he, hn, hrun0]
        subst c
        rfl
      · rw [beq_f c, ifb_false, om_some] at h
        obtain ⟨st1, h1, h2⟩ := h
        injection h2 with h2 h3; subst h2; subst h3
        have hAd' : a = ⟨L.blk, L.off + o, none⟩ := by
          rcases hAd with hAd | hAd
          · omega
          · exact hAd.1
        obtain ⟨w', k1, k2, k3⟩ := storeCells_sound (P := P) hH h1 hL hcr
        refine ⟨ρ, w', .int .i64 n, ?_, k3, k2, .int _ _⟩
        unfold Builtin.copy_
        simp only [hA, hX, hX1, Sem.run_bind, run_underlying' hu, Result.andThen_ok, hlen, run_sizeOf' he, hn, hrun0]
        rw [hAd']
        simp only [k1, Result.andThen_ok]
        rfl
  · injection h with h; injection h with h1 h2; subst h1; subst h2
    simp only [lenA] at hk; injection hk with hk; subst hk
    cases hd
    have hn0 : n = 0 := by omega
    have : cs' = [] := List.length_eq_zero_iff.1 (by rw [hcr.length, hcl, hn0]; simp)
    subst this
    refine ⟨ρ, w, .int .i64 0, ?_, Goes.refl, hH, .int _ _⟩
    unfold Builtin.copy_
    simp only [hA, hX, hX1, Sem.run_bind, run_underlying' hu, Result.andThen_ok, hlen, run_sizeOf' he, hn, hrun0]
    subst hn0
    rfl
  · cases h

theorem clear_sound {st st' : St} {w : World} (hH : HR ρ st w) {t ty : TypeId} {x : AV} {x' : Value} (h : clearA P st t x = some st') (hx : VR ρ x x') {A : Array TypeId} {X : Array Value} (hA : A[0]? = some t) (hX : X[0]? = some x') :
    Does P ρ st w undefA st' (Builtin.clear_ A ty X) := by
  unfold clearA at h
  split at h
  · rename_i key elem hu
    injection h with h; subst h; cases hx
    exact ⟨ρ, w, .tuple #[], by simp [Builtin.clear_, hA, hX, run_underlying' hu], Goes.refl, hH, .tuple .nil⟩
  · rename_i elem hu
    injection h with h; subst h; cases hx
    exact ⟨ρ, w, .tuple #[], by simp [Builtin.clear_, hA, hX, run_underlying' hu], Goes.refl, hH, .tuple .nil⟩
  · rename_i key elem b hu
    rw [om_some] at h
    obtain ⟨q, h1, rfl⟩ := h
    cases hx with
    | map hL =>
      rename_i L
      obtain ⟨es', h3, h4⟩ := map_at hH h1 hL
      obtain ⟨a, b'⟩ := put_map hH h1 hL (.nil : ERs ρ [] []) q.2
      refine ⟨ρ, _, .tuple #[], ?_, b', a, .tuple .nil⟩
      have hget : (getObj L.blk).run P w = .ok (.map ⟨es'⟩ q.2) w := by simp [getObj, Sem.run, h3]
      have hset : ∀ o, (setObj L.blk o).run P w = .ok () { w with heap := w.heap.setIfInBounds L.blk o } := fun o => by simp [setObj, Sem.run, h3]
      simp [Builtin.clear_, hA, hX, run_underlying' hu, hget, hset]
  · rename_i elem b o n cap ex e hu
    cases hx with
    | slice hL hle hcap hex hAd =>
      rename_i L a cap'
      by_cases c : n = 0
      · rw [beq_t c, ifb_true] at h
        injection h with h; subst h
        subst c
        exact ⟨ρ, w, .tuple #[], by simp [Builtin.clear_, hA, hX, run_underlying' hu], Goes.refl, hH, .tuple .nil⟩
      · rw [beq_f c, ifb_false] at h
        simp only [ob_some, ifb_none] at h
        obtain ⟨s, h1, h2, z, h3, h4⟩ := h
        have hAd' : a = ⟨L.blk, L.off + o, none⟩ := by
          rcases hAd with hAd | hAd
          · omega
          · exact hAd.1
        obtain ⟨z', hz, hzr⟩ := zero_any (P := P) h3 ρ
        obtain ⟨w', k1, k2, k3⟩ := storeCells_sound (P := P) hH h4 hL (hzr.cells.repl n)
        refine ⟨ρ, w', .tuple #[], ?_, k3, k2, .tuple .nil⟩
        obtain ⟨n', rfl⟩ : ∃ n', n = n' + 1 := ⟨n - 1, by omega⟩
        simp [Builtin.clear_, hA, hX, run_underlying' hu, hz, zeroCells_eq, hAd', k1]
  · cases h

theorem does_val {st st' : St} {w : World} {v : AV} {s : Sem Value} (h : Does P ρ st w v st' s) :
    ∃ ρ' w' v', (do pure (Next.value (← s)) : Sem Next).run P w = .ok (.value v') w' ∧ Goes ρ st w ρ' st' w' ∧ HR ρ' st' w' ∧ VR ρ' v v' := by
  obtain ⟨ρ', w', v', h1, h2, h3, h4⟩ := h
  exact ⟨ρ', w', v', by simp [h1], h2, h3, h4⟩

/-- What the model makes of an operation. -/
def Ans (P : Program) (ρ : Names) (st : St) (w : World) (s : Sem Next) : OpR → Prop
  | .val v st' => ∃ ρ' w' v', (s.run P w = .ok (.value v') w' ∨ (s.run P w = .ok .skip w' ∧ v' = Go.undef)) ∧ Goes ρ st w ρ' st' w' ∧ HR ρ' st' w' ∧ VR ρ' v v'
  | .call f args => ∃ args' : List Value, VRs ρ args args' ∧ s.run P w = (callFunc f ⟨args'⟩).run P w
  | .yld l args => ∃ (L : Loc) (args' : List Value), ρ l = some L ∧ VRs ρ args args' ∧ s.run P w = (Instr.yield L.blk ⟨args'⟩).run P w
  | .dfr f args => ∃ a c : List Value, VRs ρ args (a ++ c) ∧ s.run P w = .ok (.defer { target := .fn (.func f) ⟨c⟩, args := ⟨a⟩ }) w

theorem vst_some {r : Option (AV × St)} {x : OpR} : vst r = some x ↔ ∃ v st, r = some (v, st) ∧ x = .val v st := by
  unfold vst; rw [om_some]
  constructor
  · rintro ⟨⟨v, st⟩, h, rfl⟩; exact ⟨v, st, h, rfl⟩
  · rintro ⟨v, st, h, rfl⟩; exact ⟨(v, st), h, rfl⟩
theorem ust_some {r : Option St} {x : OpR} : ust r = some x ↔ ∃ st, r = some st ∧ x = .val undefA st := by
  unfold ust; rw [om_some]
  constructor
  · rintro ⟨st, h, rfl⟩; exact ⟨st, h, rfl⟩
  · rintro ⟨st, h, rfl⟩; exact ⟨st, h, rfl⟩
theorem VRs.arg1 {ev : Operand → Value} {args : Array Operand} {a b : AV} {l : List AV} (h : VRs ρ (a :: b :: l) (args.toList.map ev)) :
    ∃ (a' b' : Value), (args.map ev)[0]? = some a' ∧ (args.map ev)[1]? = some b' ∧ VR ρ a a' ∧ VR ρ b b' := by
  rw [← Array.toList_map] at h
  have e0 : ∀ i, (args.map ev)[i]? = (args.map ev).toList[i]? := fun i => by rw [Array.getElem?_toList]
  simp only [e0]
  generalize (args.map ev).toList = X at h
  cases h with
  | cons hv t => cases t with
    | cons hv2 t2 => exact ⟨_, _, by simp, by simp, hv, hv2⟩

theorem resolve_call {T : Tr AV} {ev : Operand → Value} (hT : ∀ x a, opd T x = some a → VR ρ a (ev x)) {w : World} {f : Operand} {args : Array Operand} {at_ : Array TypeId} {r : OpR} (h : callA T f args.toList = some r) (ty : TypeId) :
    (∃ g as, r = .call g as ∧ ∃ a c : List Value, VRs ρ as (a ++ c) ∧ (resolve ev { callee := .value f, args, argTypes := at_ } ty).run P w = .ok { target := .fn (.func g) ⟨c⟩, args := ⟨a⟩ } w) ∨
    (∃ l as, r = .yld l as ∧ ∃ (L : Loc) (a : List Value), ρ l = some L ∧ VRs ρ as a ∧ (resolve ev { callee := .value f, args, argTypes := at_ } ty).run P w = .ok { target := .fn (.yield L.blk) #[], args := ⟨a⟩ } w) := by
  simp only [callA, ob_some] at h
  obtain ⟨g, h1, as, h2, h3⟩ := h
  have hg := hT _ _ h1
  have ha := opds_sound hT h2
  rw [← Array.toList_map] at ha
  split at h3
  · rename_i k first cap
    injection h3 with h3
    left
    refine ⟨k, first ++ as ++ cap, h3.symm, ?_⟩
    obtain ⟨z, hz⟩ : ∃ z, ev f = z := ⟨_, rfl⟩
    rw [hz] at hg
    cases hg with
    | func hf hc =>
      rename_i a' c'
      refine ⟨a' ++ (args.map ev).toList, c', (hf.append ha).append hc, ?_⟩
      simp [resolve, hz, Deferred.ofValue]
  · rename_i l
    injection h3 with h3
    right
    refine ⟨l, as, h3.symm, ?_⟩
    obtain ⟨z, hz⟩ : ∃ z, ev f = z := ⟨_, rfl⟩
    rw [hz] at hg
    cases hg with
    | yield hL => exact ⟨_, (args.map ev).toList, hL, ha, by simp [resolve, hz, Deferred.ofValue]; exact Array.ext' (by simp)⟩
  · cases h3

theorem find_clone {fn : Func} (h : isClone fn = true) : Extern.findNext fn = none ∧ Extern.find fn = some Extern.MapsClone.clone := by
  unfold isClone at h
  simp only [Bool.and_eq_true, beq_iff_eq] at h
  obtain ⟨h1, h2⟩ := h
  constructor
  · unfold Extern.findNext
    rw [h1, h2]
    rfl
  · unfold Extern.find
    rw [h1, h2]
    rfl
theorem clone_sound {st st' : St} {w : World} (hH : HR ρ st w) {as : List AV} {as' : List Value} {v : AV} (h : cloneA st as = some (v, st')) (ha : VRs ρ as as') : Does P ρ st w v st' (Extern.MapsClone.clone ⟨as'⟩) := by
  unfold cloneA at h
  split at h
  · rename_i t b
    rw [om_some] at h
    obtain ⟨q, h1, h2⟩ := h
    injection h2 with h2 h3; subst h2; subst h3
    cases ha with
    | cons hv ht =>
      cases ht
      cases hv with
      | iface hv =>
        cases hv with
        | map hL =>
          rename_i L
          obtain ⟨es', h3, h4⟩ := map_at hH h1 hL
          have hle := Names.set_le (⟨w.heap.size, 0, 0⟩ : Loc) hH.fresh
          obtain ⟨a, b'⟩ := hH.new (.map q.1 q.2) ⟨w.heap.size, 0, 0⟩ (.map ⟨es'⟩ q.2) rfl ⟨es', rfl, h4.mono hle⟩
          refine ⟨_, _, .iface t (.map (some w.heap.size)), ?_, b', a, .iface (.map (Names.set_same _ _ _))⟩
          have hget : (getObj L.blk).run P w = .ok (.map ⟨es'⟩ q.2) w := by simp [getObj, Sem.run, h3]
          have e : Extern.MapsClone.clone #[.iface t (.map (some L.blk))] = (do
              let .map entries clock ← getObj L.blk | stuck "maps.clone: a map expected"
              pure (.iface t (.map (some (← newObj (.map entries clock)))))) := rfl
          show (Extern.MapsClone.clone #[.iface t (.map (some L.blk))]).run P w = _
          rw [e]
          simp only [Sem.run_bind, hget, Result.andThen_ok]
          simp [newObj, Sem.run, worldNew]
  · cases h

/-! Walks along maps that hold nothing. -/
theorem mrange_sound {st st' : St} {w : World} (hH : HR ρ st w) {t : TypeId} {x v : AV} {x' : Value} (h : mrangeA P st t x = some (v, st')) (hx : VR ρ x x') : Does P ρ st w v st' (Instr.range t x') := by
  unfold mrangeA at h
  split at h
  · rename_i k e hu
    injection h with h; injection h with h1 h2; subst h1; subst h2
    cases hx
    obtain ⟨a, b⟩ := hH.new (.mit none) ⟨w.heap.size, 0, 0⟩ (.mapIter none 0 #[] 0) rfl ⟨none, 0, #[], 0, rfl, rfl, .inl ⟨rfl, rfl⟩⟩
    refine ⟨_, _, .pointer (some ⟨w.heap.size, 0, none⟩), ?_, b, a, .ptr (L := ⟨w.heap.size, 0, 0⟩) (Names.set_same _ _ _)⟩
    simp [Instr.range, run_underlying' hu, newObj, Sem.run, worldNew]
  · rename_i k e b hu
    rw [om_some] at h
    obtain ⟨q, hq, h⟩ := h
    injection h with h1 h2; subst h1; subst h2
    cases hx with
    | map hL =>
      rename_i L
      obtain ⟨es', h3, h4⟩ := map_at hH hq hL
      have hget : (getObj L.blk).run P w = .ok (.map ⟨es'⟩ q.2) w := by simp [getObj, Sem.run, h3]
      obtain ⟨a, b'⟩ := hH.new (mitFor b q.1 q.2) ⟨w.heap.size, 0, 0⟩ (.mapIter (some L.blk) q.2 #[] q.2) rfl (by
        unfold mitFor
        split
        · exact ⟨some L.blk, q.2, #[], q.2, rfl, rfl, .inr ⟨b, L, rfl, Names.set_le _ hH.fresh _ _ hL, rfl⟩⟩
        · exact ⟨L, rfl, Names.set_le _ hH.fresh _ _ hL, rfl⟩)
      refine ⟨_, _, .pointer (some ⟨w.heap.size, 0, none⟩), ?_, b', a, .ptr (L := ⟨w.heap.size, 0, 0⟩) (Names.set_same _ _ _)⟩
      simp [Instr.range, run_underlying' hu, hget, newObj, Sem.run, worldNew]
  · cases h
theorem mnextN_sound {st st' : St} {w : World} (hH : HR ρ st w) {r b s c : Nat} {sn : Option Nat} {v : AV} {x' : Value} (h0 : st.heap.get r = some (.mitN b s sn c)) (h : mnextN st r b s sn c = some (v, st')) (hx : VR ρ (.ptr r 0) x') (ty : TypeId) :
    Does P ρ st w v st' (Instr.next x' false ty) := by
  cases hx with
  | ptr hL =>
    rename_i L
    obtain ⟨L', hL', K, hof, hK, h1⟩ := hH.obj _ _ h0
    obtain rfl : L' = L := by rw [hL] at hL'; injection hL' with h; exact h.symm
    unfold mnextN at h
    rw [ob_some] at h
    obtain ⟨q, hq, h⟩ := h
    obtain ⟨es', g1, g2⟩ := map_at hH hq hK
    have hob : (getObj L'.blk).run P w = .ok (.mapIter (some K.blk) s (seenArr sn) c) w := by simp [getObj, Sem.run, h1]
    have hob2 : (getObj K.blk).run P w = .ok (.map ⟨es'⟩ q.2) w := by simp [getObj, Sem.run, g1]
    have hch : (choose (Question.mapNext 1)).run P w = .ok 0 w := by simp [choose, Sem.run, Question.forced]
    have hset : ∀ o, (setObj L'.blk o).run P w = .ok () { w with heap := w.heap.setIfInBounds L'.blk o } := fun o => by simp [setObj, Sem.run, h1]
    split at h
    · rename_i hq1
      injection h with h; injection h with h3 h4; subst h3; subst h4
      rw [hq1] at g2
      cases g2
      have hob3 : (getObj K.blk).run P w = .ok (.map #[] q.2) w := hob2
      refine ⟨ρ, w, .tuple #[.bool false], ?_, Goes.refl, hH, .tuple (.cons (.bool false) .nil)⟩
      simp [Instr.next, hof, hob, hob3, hch, Question.forced]
    · rename_i e hq1
      rw [ifb_none] at h
      obtain ⟨hb, h⟩ := h
      injection h with h; injection h with h3 h4; subst h3; subst h4
      rw [hq1] at g2
      obtain ⟨k, v0, n⟩ := e
      cases g2 with
      | cons hk hv t =>
      cases t
      rename_i k' v'
      have hlt : n < s := of_ble hb
      have hge : ¬ s ≤ n := by omega
      obtain ⟨a, b'⟩ := hH.put h0 hL (.mitN b s (some n) q.2) (.mapIter (some K.blk) s #[n] q.2) ⟨K, hof, hK, rfl⟩ _ rfl
      refine ⟨ρ, _, .tuple #[.bool true, k', v'], ?_, b', a, .tuple (.cons (.bool true) (.cons hk (.cons hv .nil)))⟩
      unfold Instr.next
      simp only [hof, Sem.run_bind, hob, Result.andThen_ok, hob2, seenArr]
      simp [hch, hlt, hge, hset, Question.forced]
    · rename_i e n hq1
      rw [ifb_none, Bool.and_eq_true] at h
      obtain ⟨⟨hb, hc⟩, h⟩ := h
      injection h with h; injection h with h3 h4; subst h3; subst h4
      rw [hq1] at g2
      obtain ⟨k, v0, n'⟩ := e
      obtain rfl : n' = n := of_beq hb
      cases g2 with
      | cons hk hv t =>
      cases t
      have hlt : n' < c := of_ble hc
      have hge : ¬ c ≤ n' := by omega
      refine ⟨ρ, w, .tuple #[.bool false], ?_, Goes.refl, hH, .tuple (.cons (.bool false) .nil)⟩
      unfold Instr.next
      simp only [hof, Sem.run_bind, hob, Result.andThen_ok, hob2, seenArr]
      simp [hch, hge, Question.forced]
    · cases h
theorem mseen_sound {st st' : St} {w : World} (hH : HR ρ st w) {x v : AV} {x' : Value} (h : mseenA st x = some (v, st')) (hx : VR ρ x x') : Does P ρ st w v st' (Instr.entry x') := by
  unfold mseenA at h
  split at h
  · rename_i r
    rw [ob_some] at h
    obtain ⟨o, h0, h⟩ := h
    split at h
    · rename_i b s n c
      rw [ob_some] at h
      obtain ⟨q, hq, h⟩ := h
      split at h
      · rename_i e hq1
        rw [ifb_none, Bool.and_eq_true] at h
        obtain ⟨⟨hb, hc⟩, h⟩ := h
        injection h with h; injection h with h3 h4; subst h3; subst h4
        cases hx with
        | ptr hL =>
        rename_i L
        obtain ⟨L', hL', K, hof, hK, h1⟩ := hH.obj _ _ h0
        obtain rfl : L' = L := by rw [hL] at hL'; injection hL' with h; exact h.symm
        obtain ⟨es', g1, g2⟩ := map_at hH hq hK
        have hob : (getObj L'.blk).run P w = .ok (.mapIter (some K.blk) s #[n] c) w := by simp [getObj, Sem.run, h1, seenArr]
        have hob2 : (getObj K.blk).run P w = .ok (.map ⟨es'⟩ q.2) w := by simp [getObj, Sem.run, g1]
        rw [hq1] at g2
        obtain ⟨k, v0, n'⟩ := e
        obtain rfl : n' = n := of_beq hb
        have hc' : q.2 = c := of_beq hc
        cases g2 with
        | cons hk hv t =>
        cases t
        rename_i k' v'
        refine ⟨ρ, w, .tuple #[k', v'], ?_, Goes.refl, hH, .tuple (.cons hk (.cons hv .nil))⟩
        unfold Instr.entry
        simp only [hof, Sem.run_bind, hob, Result.andThen_ok]
        simp [hob2, hc']
      · cases h
    · cases h
  · cases h
theorem mnext_sound {st st' : St} {w : World} (hH : HR ρ st w) {x v : AV} {x' : Value} (h : mnextA st x = some (v, st')) (hx : VR ρ x x') (ty : TypeId) : Does P ρ st w v st' (Instr.next x' false ty) := by
  unfold mnextA at h
  split at h
  · rename_i r
    rw [ob_some] at h
    obtain ⟨o, ho, h⟩ := h
    split at h
    · exact mnextN_sound hH ho h hx ty
    rw [ob_some] at h
    obtain ⟨m, hm, h⟩ := h
    cases hx with
    | ptr hL =>
      rename_i L
      have h0 : st.heap.get r = some (.mit m) := by
        unfold mitOf at hm
        rw [ob_some] at hm
        obtain ⟨o, k1, k2⟩ := hm
        cases o <;> simp at k2
        subst k2; exact k1
      obtain ⟨L', hL', mm, s, seen, c, hof, h1, h2⟩ := hH.obj _ _ h0
      obtain rfl : L' = L := by rw [hL] at hL'; injection hL' with h; exact h.symm
      have hob : (getObj L'.blk).run P w = .ok (.mapIter mm s seen c) w := by simp [getObj, Sem.run, h1]
      have hch : (choose (Question.mapNext 1)).run P w = .ok 0 w := by simp [choose, Sem.run, Question.forced]
      rcases h2 with ⟨rfl, rfl⟩ | ⟨b, K, rfl, hK, rfl⟩
      · injection h with h; injection h with h3 h4; subst h3; subst h4
        refine ⟨ρ, w, .tuple #[.bool false], ?_, Goes.refl, hH, .tuple (.cons (.bool false) .nil)⟩
        simp [Instr.next, hof, hob]
      · simp only [ob_some] at h
        obtain ⟨q, hq, h⟩ := h
        split at h
        · rename_i hq1
          injection h with h; injection h with h3 h4; subst h3; subst h4
          obtain ⟨es', g1, g2⟩ := map_at hH hq hK
          rw [hq1] at g2
          cases g2
          have hob2 : (getObj K.blk).run P w = .ok (.map #[] q.2) w := by simp [getObj, Sem.run, g1]
          refine ⟨ρ, w, .tuple #[.bool false], ?_, Goes.refl, hH, .tuple (.cons (.bool false) .nil)⟩
          simp [Instr.next, hof, hob, hob2, hch, Question.forced]
        · cases h
  · cases h

theorem aop_sound {T : Tr AV} {ev : Operand → Value} (hT : ∀ x a, opd T x = some a → VR ρ a (ev x)) {st : St} {w : World} (hH : HR ρ st w) {o : Oper} {r : OpR} (h : aop P T st o.op = some r) : Ans P ρ st w (execOp ev o) r := by
  by_cases hk : stillK (kd o.op) = true
  · obtain ⟨v, rfl, v', h1, h2⟩ := still_sound hT hH h hk
    exact ⟨ρ, w, v', .inl h1, Goes.refl, hH, h2⟩
  by_cases hf : freshK (kd o.op) = true
  · have : aop P T st o.op = freshR st (freshA P st.vm T st.next o.op) := by
      obtain ⟨dst, op, type, pos, after, guard⟩ := o
      cases op <;> first | rfl | (simp [kd, freshK] at hf; done) | skip
      rename_i c
      obtain ⟨callee, args, argTypes⟩ := c
      cases callee <;> simp [kd, freshK] at hf
      rename_i b
      cases b <;> simp at hf
    rw [this] at h
    unfold freshR at h
    rw [om_some] at h
    obtain ⟨q, h1, rfl⟩ := h
    obtain ⟨v', x, tot, k1, k2⟩ := fresh_sound (w := w) hT h1
    have hle := Names.set_le (⟨w.heap.size, 0, tot⟩ : Loc) hH.fresh
    have := k2 _ hle (Names.set_same _ _ _)
    obtain ⟨a, b⟩ := hH.new q.2 ⟨w.heap.size, 0, tot⟩ x rfl this.2
    exact ⟨_, _, v', .inl k1, b, a, this.1⟩
  have skip : ∀ {st' : St} {s : Sem Unit}, DoesU P ρ st w st' s → Ans P ρ st w (do s; pure .skip) (.val undefA st') := by
    rintro st' s ⟨ρ', w', h1, h2, h3⟩
    exact ⟨ρ', w', .tuple #[], .inr ⟨by simp [h1], rfl⟩, h2, h3, .tuple .nil⟩
  obtain ⟨dst, op, type, pos, after, guard⟩ := o
  dsimp only at h hk hf ⊢
  cases op <;> try (simp [kd, stillK] at hk; done)
  all_goals try (simp [kd, freshK] at hf; done)
  all_goals dsimp only [execOp]
  all_goals simp only [aop, ob_some, ptrR_some, ust_some, vst_some, reduceCtorEq] at h
  case store t a v =>
    obtain ⟨av, h1, vv, h2, b, o, rfl, st', h3, rfl⟩ := h
    have ha := hT _ _ h1
    apply skip
    generalize ev a = z at ha ⊢
    cases ha with
    | ptr hL =>
      obtain ⟨w', k1, k2, k3⟩ := storeVar_sound (P := P) hH h3 hL (hT _ _ h2)
      exact ⟨ρ, w', by simp [Instr.storeAt, Instr.sureAddr, k1], k3, k2⟩
  case mapUpdate t m k x =>
    obtain ⟨mv, h1, kv, h2, xv, h3, st', h4, rfl⟩ := h
    exact skip (mapUpdate_sound hH h4 (hT _ _ h1) (hT _ _ h2) (hT _ _ h3))
  case insert t m k x =>
    obtain ⟨mv, h1, kv, h2, xv, h3, st', h4, rfl⟩ := h
    exact skip (mapUpdate_sound hH h4 (hT _ _ h1) (hT _ _ h2) (hT _ _ h3))
  case mapEntry t m k =>
    obtain ⟨mv, h1, kv, h2, v, st', h4, rfl⟩ := h
    obtain ⟨ρ', w', v', k1, k2, k3, k4⟩ := does_val (mapEntry_sound hH h4 (hT _ _ h1) (hT _ _ h2))
    exact ⟨ρ', w', v', .inl k1, k2, k3, k4⟩
  case entryStore t m s x =>
    obtain ⟨mv, h1, sv, h2, xv, h3, st', h4, rfl⟩ := h
    exact skip (entryStore_sound hH h4 (hT _ _ h1) (hT _ _ h2) (hT _ _ h3))
  case range t x =>
    obtain ⟨xv, h1, v, st', h4, rfl⟩ := h
    obtain ⟨ρ', w', v', k1, k2, k3, k4⟩ := does_val (mrange_sound hH h4 (hT _ _ h1))
    exact ⟨ρ', w', v', .inl k1, k2, k3, k4⟩
  case next x s =>
    obtain ⟨xv, h1, v, st', h4, rfl⟩ := h
    rw [ifb_none'] at h4
    obtain ⟨rfl, h4⟩ := h4
    obtain ⟨ρ', w', v', k1, k2, k3, k4⟩ := does_val (mnext_sound hH h4 (hT _ _ h1) type)
    exact ⟨ρ', w', v', .inl k1, k2, k3, k4⟩
  case entry x =>
    obtain ⟨xv, h1, v, st', h4, rfl⟩ := h
    obtain ⟨ρ', w', v', k1, k2, k3, k4⟩ := does_val (mseen_sound hH h4 (hT _ _ h1))
    exact ⟨ρ', w', v', .inl k1, k2, k3, k4⟩
  case call c =>
    obtain ⟨callee, args, argTypes⟩ := c
    cases callee <;> simp only [reduceCtorEq, ob_some] at h
    · rename_i f
      obtain ⟨r1, h, hbd⟩ := h
      rcases resolve_call (P := P) (w := w) (at_ := argTypes) hT h type with ⟨g, as, rfl, a, c, k1, k2⟩ | ⟨l, as, rfl, L, a, k1, k2, k3⟩
      · simp only [bodied, ob_some] at hbd
        obtain ⟨fn, hfn, hbd⟩ := hbd
        split at hbd
        · injection hbd with hbd; subst hbd
          refine ⟨a ++ c, k1, ?_⟩
          rw [Sem.run_bind, k2]
          simp [invoke]
        · rename_i hbody
          rw [ifb_none] at hbd
          obtain ⟨hcl, hbd⟩ := hbd
          obtain ⟨v, st', h3, rfl⟩ := vst_some.1 hbd
          obtain ⟨ρ', w', v', k3, k4, k5, k6⟩ := clone_sound (P := P) hH h3 k1
          refine ⟨ρ', w', v', .inl ?_, k4, k5, k6⟩
          obtain ⟨f1, f2⟩ := find_clone hcl
          have hname : ¬ fn.name = "runtime.NumGoroutine" := by
            unfold isClone at hcl
            simp only [Bool.and_eq_true, beq_iff_eq] at hcl
            rw [hcl.1]; decide
          rw [Sem.run_bind, k2]
          simp [invoke, callFunc, hfn, hname, hbody, f1, f2, run_mark, k3]
      · simp only [bodied] at hbd
        injection hbd with hbd; subst hbd
        refine ⟨L, a, k1, k2, ?_⟩
        rw [Sem.run_bind, k3]
        simp [invoke]
    · rename_i b
      have hres : (resolve ev { callee := .builtin b, args, argTypes } type).run P w = .ok { target := .builtin b argTypes type (args.map fun | .const _ => true | _ => false), args := args.map ev } w := by
        rfl
      simp only [builtinA, ob_some] at h
      obtain ⟨as, h1, h⟩ := h
      have hs := opds_sound hT h1
      have fin : ∀ {v : AV} {st' : St} {s : Sem Value}, (builtin b argTypes type (args.map fun | .const _ => true | _ => false) (args.map ev)) = (do pure (.value (← s))) → Does P ρ st w v st' s →
          Ans P ρ st w (do let d ← resolve ev { callee := .builtin b, args, argTypes } type; invoke d.target d.args) (.val v st') := by
        intro v st' s he hd
        obtain ⟨ρ', w', v', k1, k2, k3, k4⟩ := does_val hd
        refine ⟨ρ', w', v', .inl ?_, k2, k3, k4⟩
        rw [Sem.run_bind, hres]
        simp only [Result.andThen_ok, invoke]
        rw [he]; exact k1
      cases b <;> simp only [reduceCtorEq] at h <;> try (simp [kd, stillK] at hk; done)
      case append =>
        obtain ⟨a, b, t, l, rfl, ht, h⟩ := arg2_some h
        obtain ⟨v, st', h3, rfl⟩ := vst_some.1 h
        obtain ⟨a', b', e0, e1, ha, hb⟩ := hs.arg1
        refine fin rfl (append_sound hH h3 ha hb (head_at ht) ?_ e0 e1)
        rw [← Array.getElem?_toList, ht]; cases l <;> rfl
      case clear =>
        obtain ⟨a, t, l, rfl, ht, h⟩ := arg1_some h
        obtain ⟨st', h3, rfl⟩ := ust_some.1 h
        obtain ⟨a', l', e, ha, _⟩ := hs.args
        exact fin rfl (clear_sound hH h3 ha (head_at ht) (head_at e))
      case copy =>
        obtain ⟨a, b, t, l, rfl, ht, h⟩ := arg2_some h
        obtain ⟨v, st', h3, rfl⟩ := vst_some.1 h
        obtain ⟨a', b', e0, e1, ha, hb⟩ := hs.arg1
        exact fin rfl (copy_sound hH h3 ha hb (head_at ht) e0 e1)
      case delete =>
        obtain ⟨a, b, t, l, rfl, ht, h⟩ := arg2_some h
        obtain ⟨st', h3, rfl⟩ := ust_some.1 h
        obtain ⟨a', b', e0, e1, ha, hb⟩ := hs.arg1
        exact fin rfl (delete_sound hH h3 ha hb (head_at ht) e0 e1)
  case defer c =>
    obtain ⟨callee, args, argTypes⟩ := c
    cases callee <;> simp only [reduceCtorEq] at h
    rename_i f
    simp only [ob_some] at h
    obtain ⟨r1, h1, h2⟩ := h
    rcases resolve_call (P := P) (w := w) (at_ := argTypes) hT h1 type with ⟨g, as, rfl, a, c, k1, k2⟩ | ⟨l, as, rfl, L, a, k1, k2, k3⟩
    · injection h2 with h2; subst h2
      exact ⟨a, c, k1, by rw [Sem.run_bind, k2]; rfl⟩
    · cases h2

theorem bytes_row {ρ : Names} (l : List UInt8) : VRs ρ (l.map fun c => AV.int .u8 (.ofNat c.toNat)) (l.map fun c => Value.int .u8 c.toNat) := by
  induction l with
  | nil => exact .nil
  | cons c l ih => exact .cons (.int _ _) ih
theorem bytes_scalar (l : List UInt8) : allScalar (l.map fun c => AV.int .u8 (.ofNat c.toNat)) = true := by
  induction l with
  | nil => rfl
  | cons c l ih => exact ih

theorem strBytes_sound {st : St} {w : World} (hH : HR ρ st w) {s d e : TypeId} {b : ByteArray} (hs : P.underlying s = some .string) (hd : P.underlying d = some (.slice e)) (he : P.underlying e = some (.int .u8)) :
    Does P ρ st w (.vs (b.data.toList.map fun c => .int .u8 (.ofNat c.toNat)) b.size b.size false none 1) (st.new .spare) (convert s d (.string b)) := by
  let l' : List Value := b.data.toList.map fun c => Value.int .u8 c.toNat
  have hsz : b.data.toList.length = b.size := Array.length_toList
  have hrun := Lib.run_convert_string_bytes (P := P) w s d e b hs hd he
  have hgc : b.size ≤ grownCap w b.size 0 e := by unfold grownCap; exact Nat.le_add_right _ _
  have hcs : (Lib.bytesCells w e b).size = grownCap w b.size 0 e := by
    unfold Lib.bytesCells
    rw [Array.size_append, Array.size_map, Array.size_replicate]
    have : b.data.size = b.size := rfl
    omega
  have hw : Lib.bytesWorld w e b = worldNew { w with drawn := w.drawn + 1 } (.cells (Lib.bytesCells w e b) e ((Lib.bytesCells w e b).size, (Lib.bytesCells w e b).size + 1)) := by
    have h1 : (Lib.bytesWorld w e b).heap = w.heap.push (.cells (Lib.bytesCells w e b) e ((Lib.bytesCells w e b).size, (Lib.bytesCells w e b).size + 1)) := by
      apply Array.ext_getElem?
      intro j
      rcases Nat.lt_trichotomy j w.heap.size with h | h | h
      · rw [Lib.bytesWorld_at_old w e b j h]; simp [Array.getElem?_push, Nat.ne_of_lt h]
      · subst h; rw [Lib.bytesWorld_at_new]; simp
      · rw [Array.getElem?_eq_none (by rw [Lib.bytesWorld_size]; omega), Array.getElem?_eq_none (by simp; omega)]
    refine (show Lib.bytesWorld w e b = ⟨(Lib.bytesWorld w e b).heap, w.tape, w.drawn + 1, w.os, w.output⟩ from rfl).trans ?_
    rw [h1]; rfl
  obtain ⟨H, G⟩ := (hH.drew (w.drawn + 1)).newVsF l' (Lib.bytesCells w e b) e (Lib.bytesCells w e b).size ((Lib.bytesCells w e b).size + 1) (fun i hi h => by omega)
    (by simp only [l', List.length_map, hsz]; rw [hcs]; exact hgc) (fun j v hj => by
      have hlt : j < l'.length := by
        rcases Nat.lt_or_ge j l'.length with h | h
        · exact h
        · rw [List.getElem?_eq_none h] at hj; cases hj
      have : (b.data.map fun c => Value.int .u8 c.toNat).toList = l' := by simp [l']
      unfold Lib.bytesCells
      rw [Array.getElem?_append_left (by rw [← Array.length_toList, this]; exact hlt), ← Array.getElem?_toList, this]; exact hj)
  rw [← hw] at H G
  have hG0 : Goes ρ st w ρ st { w with drawn := w.drawn + 1 } := Goes.refl.drew (w.drawn + 1)
  refine ⟨_, _, _, hrun, hG0.trans G, H, ?_⟩
  refine .vs (blk := w.heap.size) (off := 0) (bytes_row _) (bytes_scalar _) (by simp [hsz]) (Nat.le_refl _) hgc (fun e => by cases e) (.inr ⟨rfl, fun j v hj => Names.add_at _ _ _ _ hj⟩) (fun b' hb' => by cases hb')

theorem bytesOp_sound {T : Tr AV} {ev : Operand → Value} (hT : ∀ x a, opd T x = some a → VR ρ a (ev x)) {st : St} {w : World} (hH : HR ρ st w) {o : Oper} {r : OpR} (h : bytesOpA P T st o.op = some r) : (∃ v s, r = .val v s) ∧ Ans P ρ st w (execOp ev o) r := by
  obtain ⟨dst, op, type, pos, after, guard⟩ := o
  cases op <;> simp only [bytesOpA, reduceCtorEq] at h
  rename_i s d x
  rw [ob_some] at h
  obtain ⟨a, h1, h⟩ := h
  split at h
  · rename_i e b hs hd
    split at h
    · rename_i he
      injection h with h; subst h
      have hv := hT _ _ h1
      obtain ⟨ρ', w', v', k1, k2, k3, k4⟩ := does_val (strBytes_sound (ρ := ρ) (w := w) hH (b := b) hs hd he)
      refine ⟨⟨_, _, rfl⟩, ρ', w', v', .inl ?_, k2, k3, k4⟩
      dsimp only [execOp]
      generalize ev x = z at hv ⊢
      cases hv
      exact k1
    · cases h
  · cases h

theorem aopB_of {T : Tr AV} {st : St} {op : Op} {x : OpR} (h : aop P T st op = some x) : aopB P T st op = some x := by unfold aopB; rw [h]
theorem aopB_some {T : Tr AV} {st : St} {op : Op} {x : OpR} (h : aopB P T st op = some x) : aop P T st op = some x ∨ bytesOpA P T st op = some x := by
  unfold aopB at h
  cases h1 : aop P T st op with
  | none => rw [h1] at h; exact .inr h
  | some y => rw [h1] at h; exact .inl h
theorem aopB_defer {T : Tr AV} {st : St} {c : Call} : aopB P T st (.defer c) = aop P T st (.defer c) := by
  unfold aopB
  cases aop P T st (.defer c) <;> rfl
theorem aopB_sound {T : Tr AV} {ev : Operand → Value} (hT : ∀ x a, opd T x = some a → VR ρ a (ev x)) {st : St} {w : World} (hH : HR ρ st w) {o : Oper} {r : OpR} (h : aopB P T st o.op = some r) : Ans P ρ st w (execOp ev o) r :=
  (aopB_some h).elim (fun h => aop_sound hT hH h) fun h => (bytesOp_sound hT hH h).2

end Go.Det
