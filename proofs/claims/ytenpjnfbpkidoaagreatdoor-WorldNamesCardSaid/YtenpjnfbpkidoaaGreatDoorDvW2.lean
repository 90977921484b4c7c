/- What is reckoned ahead of a piece of code holds: operations. -/
import Derived.Test.YtenpjnfbpkidoaaGreatDoorDvW
set_option linter.unusedVariables false
set_option linter.unusedSimpArgs false
set_option linter.constructorNameAsVariable false
namespace Go.Det
variable {P : Program}

theorem ifp_iff {b : Bool} {x y : Prop} : ifp b x y ↔ (b = true ∧ x) ∨ (b = false ∧ y) := by cases b <;> simp [ifp]
theorem ifp_tt (b : Bool) : ifp b True True := by cases b <;> trivial
theorem ifp_true (x y : Prop) : ifp true x y = x := rfl
theorem ifp_false (x y : Prop) : ifp false x y = y := rfl
theorem ifp_F {b : Bool} {x : Prop} : ifp b x False ↔ b = true ∧ x := by cases b <;> simp [ifp]
theorem obW_iff {α : Type} {o : Option α} {k : α → Prop} : obW o k ↔ ∃ a, o = some a ∧ k a := by cases o <;> simp [obW]

theorem natOf_cast {z : Int} (h : 0 ≤ z) : z = .ofNat (natOf z) := by
  cases z with
  | ofNat n => rfl
  | negSucc n => omega
theorem natOf_le {z : Int} {y : Nat} (h : 0 ≤ z) (h' : z ≤ (y : Int)) : natOf z ≤ y := by
  cases z with
  | ofNat n => exact Int.ofNat_le.1 h'
  | negSucc n => omega

theorem sub_of {α : Type} : ∀ {o n : Nat} {l : List α}, o + n ≤ l.length → sub o n l = some ((l.drop o).take n)
  | 0, n, l, h => by
    show takeX n l = _
    rw [takeX_some]; exact ⟨by omega, by simp⟩
  | o + 1, n, [], h => by simp at h
  | o + 1, n, x :: l, h => by
    show sub o n l = _
    rw [sub_of (by simp at h; omega)]; simp
theorem sub_of_nth {α : Type} {o n : Nat} {l r : List α} (hr : r.length = n) (hn : 1 ≤ n) (h : ∀ i, i < n → nth (o + i) l = r[i]?) : sub o n l = some r := by
  have hlen : o + n ≤ l.length := by
    have := h (n - 1) (by omega)
    rw [nth_eq, List.getElem?_eq_getElem (l := r) (by omega)] at this
    rcases Nat.lt_or_ge (o + (n - 1)) l.length with h1 | h1
    · omega
    · rw [List.getElem?_eq_none h1] at this; cases this
  rw [sub_of hlen]
  congr 1
  apply List.ext_getElem?
  intro i
  by_cases c : i < n
  · have := h i c
    rw [nth_eq] at this
    rw [List.getElem?_take_of_lt c, List.getElem?_drop, this]
  · rw [List.getElem?_eq_none (by rw [List.length_take]; omega), List.getElem?_eq_none (by omega)]

/-! Reading. -/
theorem cellsW_sound {l : List AV} {o : Nat} {k : AV → Prop} {d : TypeDesc} (h : cellsW l o k d) : ∃ v, nth o l = some v ∧ k v := by
  unfold cellsW at h
  split at h
  · obtain ⟨x, h1, h2⟩ := h; exact ⟨_, h1, h2⟩
  · obtain ⟨x, h1, h2⟩ := h; exact ⟨_, h1, h2⟩
  · obtain ⟨x, h1, h2⟩ := h; exact ⟨_, h1, h2⟩
  · obtain ⟨l', n, c, x, w, e, h1, h2⟩ := h
    exact ⟨_, h1, h2⟩
  · exact h
theorem fieldsW_sound {l : List AV} {o : Nat} : ∀ {fs : List Field} {j : Nat} {k : List AV → Prop}, fieldsW P l o k fs → offsOk j fs = true → ∃ vs, vs.length = fs.length ∧ (∀ i, i < fs.length → nth (o + (j + i)) l = vs[i]?) ∧ k vs
  | [], j, k, h, _ => ⟨[], rfl, fun i hi => by simp at hi, h⟩
  | f :: fs, j, k, h, ho => by
    simp only [fieldsW, obW_iff] at h
    obtain ⟨d, hd, h⟩ := h
    have h' : cellsW l (Nat.add o f.offset) (fun v => fieldsW P l o (fun vs => k (v :: vs)) fs) d := by
      rcases ifp_iff.1 h with ⟨_, h⟩ | ⟨_, h⟩
      · exact h.elim
      · exact h
    obtain ⟨v, h1, h2⟩ := cellsW_sound h'
    simp only [offsOk, ifb_eq] at ho
    by_cases c : f.offset = j
    · rw [if_pos (beq_t c)] at ho
      obtain ⟨vs, k1, k2, k3⟩ := fieldsW_sound (j := j + 1) h2 ho
      refine ⟨v :: vs, by simp [k1], fun i hi => ?_, k3⟩
      cases i with
      | zero => simp only [Nat.add_zero, List.getElem?_cons_zero]; rw [← c]; exact h1
      | succ i =>
        have := k2 i (by simp at hi; omega)
        rw [List.getElem?_cons_succ, ← this]
        congr 1; omega
    · rw [if_neg (by rw [beq_f c]; simp)] at ho; cases ho
theorem readW_sound {t : TypeId} {l : List AV} {o : Nat} {k : AV → Prop} (h : readW P t l o k) : ∃ v, partA P t l o = some v ∧ k v := by
  unfold readW at h
  rw [obW_iff] at h
  obtain ⟨d, hd, h⟩ := h
  have plain : (∀ fs, d ≠ .struct fs) → (∀ n e, d ≠ .array n e) → cellsW l o k d → ∃ v, partA P t l o = some v ∧ k v := by
    intro n1 n2 hc
    obtain ⟨v, h1, h2⟩ := cellsW_sound hc
    refine ⟨v, ?_, h2⟩
    have ha : aggT P t = some false := by
      unfold aggT; rw [hd]
      cases d <;> first | rfl | exact absurd rfl (n1 _) | exact absurd rfl (n2 _ _)
    simp only [partA, ob_eq, ha, Option.bind_some, ifb_false, h1]
  split at h
  · rename_i fs
    rw [obW_iff] at h
    obtain ⟨n, hn, h⟩ := h
    rw [ifp_F] at h
    simp only [Bool.and_eq_true] at h
    obtain ⟨⟨h1, h2, h3⟩, h⟩ := h
    obtain ⟨vs, k1, k2, k3⟩ := fieldsW_sound h h3
    refine ⟨.agg vs, ?_, k3⟩
    have ha : aggT P t = some true := by unfold aggT; rw [hd]
    have e2 : fs.toList.length = n := of_beq h2
    simp only [partA, ob_eq, ha, Option.bind_some, ifb_true, hn, om_eq]
    rw [sub_of_nth (r := vs) (by rw [k1, e2]) (of_ble h1) (fun i hi => by have := k2 i (by omega); rwa [Nat.zero_add] at this)]
    rfl
  · exact h.elim
  · rename_i n1 n2
    exact plain (fun fs e => n1 fs e) (fun n e e' => n2 n e e') h

/-- What an operation answers, handed on. -/
def Takes (x : Option OpR) (kv : AV → St → Prop) (kc : FuncId → List AV → Prop) (ky kd : Nat → List AV → Prop) : Prop := ∃ r, x = some r ∧ OpR.rec (motive := fun _ => Prop) kv kc ky kd r

theorem rowW_iff {st : St} {b : Nat} {k : List AV → TypeId → Prop} : rowW st b k ↔ ∃ cs e, rowOf st b = some (cs, e) ∧ k cs e := by
  unfold rowW
  rw [obW_iff]
  constructor
  · rintro ⟨⟨cs, e⟩, h1, h2⟩; exact ⟨cs, e, h1, h2⟩
  · rintro ⟨cs, e, h1, h2⟩; exact ⟨(cs, e), h1, h2⟩
theorem loadW_sound {sym : TypeId → Bool} {st : St} {t : TypeId} {a : AV} {k : AV → Prop} (h : loadW P sym st t a k) :
    ∃ v, ptrV a (fun b o => jst st (loadA P st t b o)) (fun l o => jst st (partA P t l o)) (fun g o => jst st (ob (st.gl.get g) fun l => partA P t l o)) = some (.val v st) ∧ k v := by
  unfold loadW at h
  split at h
  · rw [rowW_iff] at h
    obtain ⟨cs, e, h0, h⟩ := h
    obtain ⟨v, h1, h2⟩ : ∃ v, partA P t cs _ = some v ∧ k v := by
      rcases ifp_iff.1 h with ⟨_, h⟩ | ⟨_, h⟩
      · exact readW_sound h
      · exact obW_iff.1 h
    exact ⟨v, by simp only [ptrV, loadA, h0, ob_eq, Option.bind_some, h1]; rfl, h2⟩
  · obtain ⟨v, h1, h2⟩ := readW_sound h
    exact ⟨v, by simp only [ptrV]; rw [h1]; rfl, h2⟩
  · simp only [obW_iff] at h
    obtain ⟨l, h1, v, h2, h3⟩ := h
    exact ⟨v, by simp only [ptrV, ob_eq]; rw [h1, Option.bind_some, h2]; rfl, h3⟩
  · exact h.elim

theorem over_of {α : Type} : ∀ {xs l : List α}, xs.length ≤ l.length → over xs l = some (xs ++ l.drop xs.length)
  | [], l, _ => by simp [over]
  | x :: xs, [], h => by simp at h
  | x :: xs, y :: l, h => by simp only [over, over_of (xs := xs) (l := l) (by simpa using h)]; simp [om]
theorem overAt_of {α : Type} : ∀ {o : Nat} {xs l : List α}, o + xs.length ≤ l.length → overAt o xs l = some (l.take o ++ xs ++ l.drop (o + xs.length))
  | 0, xs, l, h => by simp only [overAt, over_of (by simpa using h)]; simp
  | o + 1, xs, [], h => by simp at h
  | o + 1, xs, y :: l, h => by
    simp only [overAt, overAt_of (o := o) (xs := xs) (l := l) (by simp at h; omega)]
    rw [show o + 1 + xs.length = (o + xs.length) + 1 by omega]
    simp [om]
theorem storeW_sound {sym : TypeId → Bool} {st : St} {t : TypeId} {a v : AV} {k : St → Prop} (h : storeW P sym st t a v k) : ∃ st', ptrR a (fun b o => ust (storeA P st t b o v)) = some (.val undefA st') ∧ k st' := by
  unfold storeW at h
  split at h
  · rename_i b o
    rw [obW_iff] at h
    obtain ⟨n, hn, h⟩ := h
    rw [ifp_F, Bool.and_eq_true, rowW_iff] at h
    obtain ⟨⟨h1, h2⟩, cs, e, h3, h⟩ := h
    obtain ⟨cs', h4, h5⟩ : ∃ cs', overAt o v.cells cs = some cs' ∧ k (st.put b (.row cs' e)) := by
      rcases ifp_iff.1 h with ⟨_, h4, h5⟩ | ⟨_, h⟩
      · exact ⟨_, overAt_of h4, h5⟩
      · exact obW_iff.1 h
    exact ⟨_, by simp only [ptrR, storeA, ob_eq, hn, Option.bind_some, h1, ifb_true, storeCellsA, h3, h2, om_eq, h4]; rfl, h5⟩
  · exact h.elim
theorem fieldsEqW_sound {eq : TypeId → AV → AV → (Bool → Prop) → Prop} {eq' : TypeId → AV → AV → Option Bool} (he : ∀ t x y k, eq t x y k → ∃ b, eq' t x y = some b ∧ k b) {xs ys : List AV} {k : Bool → Prop} :
    ∀ fs : List Field, fieldsEqW P eq xs ys k fs → ∃ b, fieldsEqA P eq' xs ys fs = some b ∧ k b
  | [], h => ⟨true, rfl, h⟩
  | f :: fs, h => by
    simp only [fieldsEqW] at h
    simp only [fieldsEqA]
    rcases ifp_iff.1 h with ⟨h1, h⟩ | ⟨h1, h⟩
    · rw [h1, ifb_true]; exact fieldsEqW_sound he fs h
    · rw [h1, ifb_false]
      simp only [obW_iff] at h
      obtain ⟨a, ha, b, hb, h⟩ := h
      obtain ⟨r, hr, h⟩ := he _ _ _ _ h
      simp only [ob_eq, ha, hb, hr, Option.bind_some]
      rcases ifp_iff.1 h with ⟨h2, h⟩ | ⟨h2, h⟩
      · rw [h2, ifb_true]; exact fieldsEqW_sound he fs h
      · rw [h2, ifb_false]; exact ⟨false, rfl, h⟩
theorem eqW_sound : ∀ (d : Nat) (t : TypeId) (x y : AV) (k : Bool → Prop), eqW P d t x y k → ∃ b, eqA P d t x y = some b ∧ k b
  | 0, t, x, y, k, h => by simp [eqW] at h
  | d + 1, t, x, y, k, h => by
    unfold eqW at h
    split at h
    · rw [obW_iff] at h
      obtain ⟨u, hu, h⟩ := h
      split at h
      · rcases ifp_iff.1 h with ⟨_, h⟩ | ⟨h1, h⟩
        · exact h.elim
        · obtain ⟨b, h2, h3⟩ := fieldsEqW_sound (eqW_sound d) _ h
          refine ⟨b, ?_, h3⟩
          simp only [eqA, hu, h1, ifb_false, h2]
      · exact h.elim
    · exact obW_iff.1 h
theorem fieldsYesW_sound {eq : TypeId → AV → AV → Prop} {eq' : TypeId → AV → AV → Option Bool} (he : ∀ t x y, eq t x y → eq' t x y = some true) {xs ys : List AV} :
    ∀ fs : List Field, fieldsYesW P eq xs ys fs → fieldsEqA P eq' xs ys fs = some true
  | [], h => rfl
  | f :: fs, h => by
    simp only [fieldsYesW] at h
    simp only [fieldsEqA]
    rcases ifp_iff.1 h with ⟨h1, h⟩ | ⟨h1, h⟩
    · rw [h1, ifb_true]; exact fieldsYesW_sound he fs h
    · rw [h1, ifb_false]
      simp only [obW_iff] at h
      obtain ⟨a, ha, b, hb, h, h'⟩ := h
      simp only [ob_eq, ha, hb, he _ _ _ h, Option.bind_some, ifb_true]
      exact fieldsYesW_sound he fs h'
theorem yesW_sound : ∀ (d : Nat) (t : TypeId) (x y : AV), yesW P d t x y → eqA P d t x y = some true
  | 0, t, x, y, h => by simp [yesW] at h
  | d + 1, t, x, y, h => by
    unfold yesW at h
    split at h
    · rw [obW_iff] at h
      obtain ⟨u, hu, h⟩ := h
      split at h
      · rcases ifp_iff.1 h with ⟨_, h⟩ | ⟨h1, h⟩
        · exact h.elim
        · simp only [eqA, hu, h1, ifb_false]
          exact fieldsYesW_sound (yesW_sound d) _ h
      · exact h.elim
    · rw [obW_iff] at h
      obtain ⟨u, hu, h⟩ := h
      split at h
      · rw [ifp_F] at h
        obtain ⟨h1, h2⟩ := h
        subst h2
        simp only [eqA, hu, h1, ifb_true]
        rw [eqInt_iff.2 rfl]
      · exact h.elim
    · rw [obW_iff] at h
      obtain ⟨u, hu, h⟩ := h
      split at h
      · subst h
        simp only [eqA, hu]
        rw [eqBool_eq]; simp
      · exact h.elim
    · exact h
theorem binYesW_sound {op : BinOp} {t : TypeId} {x y : AV} {k : AV → Prop} (h : binYesW P op t x y k) : ∃ v, binA P op t x y = some v ∧ k v := by
  have hx : ∀ (r : AV) (f : Bool → AV), f true = r → (∀ q z q' z', ¬(x = .int q z ∧ y = .int q' z')) → True := fun _ _ _ _ => trivial
  unfold binYesW at h
  split at h
  · obtain ⟨h1, h2⟩ := h
    have h3 := yesW_sound _ _ _ _ h1
    refine ⟨_, ?_, h2⟩
    unfold binA
    split
    · rename_i q a q' b
      have : eqKind q q' = true ∧ eqInt a b = true := by
        unfold eqA at h3
        split at h3 <;> simp_all
        rename_i e1 e2 e3
        simp only [ifb_eq] at h3
        split at h3 <;> simp_all
      simp only [isShift, ifb_false, this.1, ifb_true, binInt, this.2]
    · rename_i a b
      have : eqBytes a.data.toList b.data.toList = true := by
        unfold eqA at h3
        split at h3 <;> simp_all
      simp only [this]
    · simp only [h3]; rfl
  · obtain ⟨h1, h2⟩ := h
    have h3 := yesW_sound _ _ _ _ h1
    refine ⟨_, ?_, h2⟩
    unfold binA
    split
    · rename_i q a q' b
      have : eqKind q q' = true ∧ eqInt a b = true := by
        unfold eqA at h3
        split at h3 <;> simp_all
        rename_i e1 e2 e3
        simp only [ifb_eq] at h3
        split at h3 <;> simp_all
      simp only [isShift, ifb_false, this.1, ifb_true, binInt, this.2, Bool.not_true]
    · rename_i a b
      have : eqBytes a.data.toList b.data.toList = true := by
        unfold eqA at h3
        split at h3 <;> simp_all
      simp only [this, Bool.not_true]
    · simp only [h3]; rfl
  · exact h.elim
theorem notNeg {b : Int} (h : 0 ≤ b) : isNeg b = false := by
  cases b with
  | ofNat n => rfl
  | negSucc n => omega
theorem binW_sound {op : BinOp} {t : TypeId} {x y : AV} {k : AV → Prop} (h : binW P op t x y k) : ∃ v, binA P op t x y = some v ∧ k v := by
  unfold binW at h
  split at h
  · exact ⟨_, by simp only [binA, isShift, ifb_true, shiftA, notNeg h.1, ifb_false]; rfl, h.2⟩
  · exact ⟨_, by simp only [binA, isShift, ifb_true, shiftA, notNeg h.1, ifb_false]; rfl, h.2⟩
  · rename_i j a j' b
    rw [ifp_F] at h
    obtain ⟨h1, h2, h3⟩ := h
    refine ⟨_, ?_, h3⟩
    have hb : eqInt b 0 = false := by
      cases hb : eqInt b 0 with
      | false => rfl
      | true => exact absurd (eqInt_iff.1 hb) h2
    simp only [binA, isShift, ifb_false, h1, ifb_true, binInt, hb]
  · rename_i j a j' b
    rw [ifp_F] at h
    obtain ⟨h1, h2, h3⟩ := h
    refine ⟨_, ?_, h3⟩
    have hb : eqInt b 0 = false := by
      cases hb : eqInt b 0 with
      | false => rfl
      | true => exact absurd (eqInt_iff.1 hb) h2
    simp only [binA, isShift, ifb_false, h1, ifb_true, binInt, hb]
  · obtain ⟨b, h1, h2⟩ := eqW_sound _ _ _ _ _ h
    exact ⟨_, by simp only [binA, h1]; rfl, h2⟩
  · obtain ⟨b, h1, h2⟩ := eqW_sound _ _ _ _ _ h
    exact ⟨_, by simp only [binA, h1]; rfl, h2⟩
  · rename_i l n c x w e
    rw [obW_iff] at h
    obtain ⟨d, hd, h⟩ := h
    split at h
    · have hn : Nat.beq n 0 = false := beq_f h.1
      have he : eqA P (9999 + 1) t (.vs l n c x w e) .nilSlice = some false := by simp only [eqA, hd, hn, ifb_false]
      exact ⟨.bool false, by show om AV.bool (eqA P (9999 + 1) t _ _) = _; rw [he]; rfl, h.2⟩
    · exact h.elim
  · rename_i l n c x w e
    rw [obW_iff] at h
    obtain ⟨d, hd, h⟩ := h
    split at h
    · have hn : Nat.beq n 0 = false := beq_f h.1
      have he : eqA P (9999 + 1) t (.vs l n c x w e) .nilSlice = some false := by simp only [eqA, hd, hn, ifb_false]
      exact ⟨.bool true, by show om (fun b => AV.bool (not b)) (eqA P (9999 + 1) t _ _) = _; rw [he]; rfl, h.2⟩
    · exact h.elim
  · exact obW_iff.1 h

theorem indexAddrW_sound {t : TypeId} {x i : AV} {k : AV → Prop} (h : indexAddrW P t x i k) : ∃ v, indexAddrA P t x i = some v ∧ k v := by
  unfold indexAddrW at h
  split at h
  · rename_i l len c x w e q z
    rw [obW_iff] at h
    obtain ⟨d, hd, h⟩ := h
    split at h
    · rename_i elem
      rw [obW_iff] at h
      obtain ⟨s, hs, h⟩ := h
      rw [ifp_F] at h
      obtain ⟨he, ⟨h1, h2⟩, h3⟩ := h
      refine ⟨_, ?_, h3⟩
      rw [natOf_cast h1] at h2
      have hlt : natOf z < len := by simp at h2; omega
      have : indexAddrA P t (.vs l len c x w e) (.int q (.ofNat (natOf z))) = some (.vptr l (Nat.mul (natOf z) s)) := by
        simp only [indexAddrA, hd, ob_eq, hs, Option.bind_some]
        rw [show Nat.ble (Nat.succ (natOf z)) len = true from ble_t hlt, ifb_true, he, ifb_true]
      rw [← natOf_cast h1] at this
      exact this
    · exact h.elim
  · rename_i b o len c x e q z
    rw [obW_iff] at h
    obtain ⟨d, hd, h⟩ := h
    split at h
    · rename_i elem
      rw [obW_iff] at h
      obtain ⟨s, hs, h⟩ := h
      rw [ifp_F] at h
      obtain ⟨he, ⟨h1, h2⟩, h3⟩ := h
      refine ⟨_, ?_, h3⟩
      rw [natOf_cast h1] at h2
      have hlt : natOf z < len := by simp at h2; omega
      have : indexAddrA P t (.slice b o len c x e) (.int q (.ofNat (natOf z))) = some (.ptr b (Nat.add o (Nat.mul (natOf z) s))) := by
        simp only [indexAddrA, hd, ob_eq, hs, Option.bind_some]
        rw [show Nat.ble (Nat.succ (natOf z)) len = true from ble_t hlt, ifb_true, he, ifb_true]
      rw [← natOf_cast h1] at this
      exact this
    · exact h.elim
  · exact obW_iff.1 h

theorem natW_in {v : AV} {d y : Nat} {k : Nat → Prop} (h : natW (some v) d y k) : ∃ n, natIn v y = some n ∧ n ≤ y ∧ k n := by
  unfold natW at h
  split at h
  · rename_i e; cases e
  · rename_i q z e
    injection e with e; subst e
    obtain ⟨h1, h2, h3⟩ := h
    have hle := natOf_le h1 h2
    refine ⟨natOf z, ?_, hle, h3⟩
    have : natIn (.int q (.ofNat (natOf z))) y = some (natOf z) := by
      simp only [natIn]
      rw [show Nat.ble (natOf z) y = true from ble_t hle, ifb_true]
    rw [← natOf_cast h1] at this
    exact this
  · exact h.elim
noncomputable def mxB (mx : Option AV) (cap : Nat) : Option Nat := match mx with | some v => natIn v cap | none => some cap
noncomputable def hiB (hi mx : Option AV) (len m : Nat) : Option Nat := match hi with | some v => natIn v m | none => (match mx with | some _ => none | none => some len)
noncomputable def loB (lo : Option AV) (h : Nat) : Option Nat := match lo with | some v => natIn v h | none => some 0
theorem boundsA_eq (len cap : Nat) (lo hi mx : Option AV) : boundsA len cap lo hi mx = (mxB mx cap).bind fun m => (hiB hi mx len m).bind fun h => (loB lo h).map fun l => ⟨l, h, m⟩ := by
  simp only [boundsA, ob_eq, om_eq]
  cases lo <;> cases hi <;> cases mx <;> rfl
theorem sliceW_sound {st : St} {t : TypeId} {x : AV} {lo hi mx : Option AV} {k : AV → Prop} (h : sliceW P st t x lo hi mx k) : ∃ v, sliceOpA P st t x lo hi mx = some v ∧ k v := by
  unfold sliceW at h
  split at h
  · rename_i l len cap ex own e
    rw [obW_iff] at h
    obtain ⟨d, hd, h⟩ := h
    split at h
    · rename_i elem
      rw [obW_iff] at h
      obtain ⟨s, hs, h⟩ := h
      rw [ifp_F, Bool.and_eq_true] at h
      obtain ⟨⟨he, hhm⟩, h⟩ := h
      have he' : s = e := of_beq he
      -- the three bounds
      have h1 : ∃ m, mxB mx cap = some m ∧ natW hi len m fun h => natW lo 0 h fun lo => h ≤ len ∧ l.length = Nat.mul len e ∧
          k (.vs ((l.drop (Nat.mul lo s)).take (Nat.mul (Nat.sub h lo) s)) (Nat.sub h lo) (Nat.sub m lo) (mxEx mx ex) none e) := by
        cases mx with
        | none => exact ⟨cap, rfl, h⟩
        | some v => obtain ⟨n, k1, _, k2⟩ := natW_in h; exact ⟨n, k1, k2⟩
      obtain ⟨m, hm, h1⟩ := h1
      have h2 : ∃ hh, hiB hi mx len m = some hh ∧ natW lo 0 hh fun lo => hh ≤ len ∧ l.length = Nat.mul len e ∧
          k (.vs ((l.drop (Nat.mul lo s)).take (Nat.mul (Nat.sub hh lo) s)) (Nat.sub hh lo) (Nat.sub m lo) (mxEx mx ex) none e) := by
        cases hi with
        | none =>
          cases mx with
          | none => exact ⟨len, rfl, h1⟩
          | some v => cases hhm
        | some v => obtain ⟨n, k1, _, k2⟩ := natW_in h1; exact ⟨n, k1, k2⟩
      obtain ⟨hh, hhh, h2⟩ := h2
      have h3 : ∃ ll, loB lo hh = some ll ∧ ll ≤ hh ∧ hh ≤ len ∧ l.length = Nat.mul len e ∧
          k (.vs ((l.drop (Nat.mul ll s)).take (Nat.mul (Nat.sub hh ll) s)) (Nat.sub hh ll) (Nat.sub m ll) (mxEx mx ex) none e) := by
        cases lo with
        | none => exact ⟨0, rfl, Nat.zero_le _, h2⟩
        | some v => obtain ⟨n, k1, k3, k2⟩ := natW_in h2; exact ⟨n, k1, k3, k2⟩
      obtain ⟨ll, hll, h4, h5, h6, h7⟩ := h3
      refine ⟨_, ?_, h7⟩
      have hb : boundsA len cap lo hi mx = some ⟨ll, hh, m⟩ := by
        rw [boundsA_eq, hm, Option.bind_some, hhh, Option.bind_some, hll]; rfl
      simp only [sliceOpA, hd, ob_eq, hb, hs, Option.bind_some, he, Bool.true_and]
      rw [show Nat.ble hh len = true from ble_t h5, ifb_true, om_eq, sub_of]
      · cases mx <;> rfl
      · show ll * s + (hh - ll) * s ≤ l.length
        rw [h6, ← he', ← Nat.add_mul]
        exact Nat.mul_le_mul_right _ (by omega)
    · exact h.elim
  · rename_i b o len cap ex e
    rw [obW_iff] at h
    obtain ⟨d, hd, h⟩ := h
    split at h
    · rename_i elem
      rw [obW_iff] at h
      obtain ⟨s, hs, h⟩ := h
      rw [ifp_F, Bool.and_eq_true] at h
      obtain ⟨⟨he, hhm⟩, h⟩ := h
      have h1 : ∃ m, mxB mx cap = some m ∧ natW hi len m fun h => natW lo 0 h fun lo => k (.slice b (Nat.add o (Nat.mul lo s)) (Nat.sub h lo) (Nat.sub m lo) (mxEx mx ex) e) := by
        cases mx with
        | none => exact ⟨cap, rfl, h⟩
        | some v => obtain ⟨n, k1, _, k2⟩ := natW_in h; exact ⟨n, k1, k2⟩
      obtain ⟨m, hm, h1⟩ := h1
      have h2 : ∃ hh, hiB hi mx len m = some hh ∧ natW lo 0 hh fun lo => k (.slice b (Nat.add o (Nat.mul lo s)) (Nat.sub hh lo) (Nat.sub m lo) (mxEx mx ex) e) := by
        cases hi with
        | none =>
          cases mx with
          | none => exact ⟨len, rfl, h1⟩
          | some v => cases hhm
        | some v => obtain ⟨n, k1, _, k2⟩ := natW_in h1; exact ⟨n, k1, k2⟩
      obtain ⟨hh, hhh, h2⟩ := h2
      have h3 : ∃ ll, loB lo hh = some ll ∧ k (.slice b (Nat.add o (Nat.mul ll s)) (Nat.sub hh ll) (Nat.sub m ll) (mxEx mx ex) e) := by
        cases lo with
        | none => exact ⟨0, rfl, h2⟩
        | some v => obtain ⟨n, k1, k3, k2⟩ := natW_in h2; exact ⟨n, k1, k2⟩
      obtain ⟨ll, hll, h7⟩ := h3
      refine ⟨_, ?_, h7⟩
      have hb : boundsA len cap lo hi mx = some ⟨ll, hh, m⟩ := by
        rw [boundsA_eq, hm, Option.bind_some, hhh, Option.bind_some, hll]; rfl
      simp only [sliceOpA, hd, ob_eq, hb, hs, Option.bind_some, he, ifb_true]
      cases mx <;> rfl
    · exact h.elim
  · cases mx with
    | none => exact obW_iff.1 h
    | some c =>
      change obW (P.underlying t) _ at h
      rw [obW_iff] at h
      obtain ⟨d, hd, h⟩ := h
      split at h
      · rename_i elem
        rw [obW_iff] at h
        obtain ⟨s, hs, h⟩ := h
        rw [ifp_F] at h
        obtain ⟨hhm, h⟩ := h
        obtain ⟨m, k1, _, h⟩ := natW_in h
        have h2 : ∃ hh, hiB hi (some c) 0 m = some hh ∧ natW lo 0 hh fun _ => k .nilSlice := by
          cases hi with
          | none => cases hhm
          | some v => obtain ⟨n, k1, _, k2⟩ := natW_in h; exact ⟨n, k1, k2⟩
        obtain ⟨hh, hhh, h⟩ := h2
        have h3 : ∃ ll, loB lo hh = some ll ∧ k .nilSlice := by
          cases lo with
          | none => exact ⟨0, rfl, h⟩
          | some v => obtain ⟨n, k1, k3, k2⟩ := natW_in h; exact ⟨n, k1, k2⟩
        obtain ⟨ll, hll, h7⟩ := h3
        refine ⟨_, ?_, h7⟩
        have hb : boundsA 0 0 lo hi (some c) = some ⟨ll, hh, m⟩ := by
          rw [boundsA_eq, show mxB (some c) 0 = some m from k1, Option.bind_some, hhh, Option.bind_some, hll]; rfl
        simp only [sliceOpA, hd, ob_eq, hs, Option.bind_some, hb, om_eq, Option.map_some]
      · exact h.elim
  · exact obW_iff.1 h

theorem newW_sound {st : St} {i : TypeInfo} {z : AV} {zs : Bool} {x : AV} {k : Nat → List AV → Prop} (h : newW st i z zs x k) : ∃ q : Nat × List AV, newCells st i z zs x = some q ∧ k q.1 q.2 := by
  unfold newW at h
  split at h
  · rename_i l n c x w e
    rw [ifp_F, Bool.and_eq_true] at h
    obtain ⟨⟨h1, h2⟩, h3, h4⟩ := h
    cases zs with
    | true => cases h1
    | false =>
      refine ⟨(n, l), ?_, h4⟩
      have e2 : e = i.size := of_beq h2
      simp only [newCells, ifb_false, lenA, ob_eq, om_eq, Option.bind_some, srcCells]
      rw [h2, ifb_true]
      have : sub 0 (Nat.mul n i.size) l = some l := by
        show takeX (Nat.mul n i.size) l = some l
        rw [takeX_some]
        have h3' : l.length = Nat.mul n i.size := by rw [h3, e2]
        exact ⟨by rw [h3']; exact Nat.le_refl _, by rw [List.take_of_length_le (Nat.le_of_eq h3')]⟩
      rw [this]; rfl
  · rename_i b o n c x e
    rw [ifp_F, Bool.and_eq_true, rowW_iff] at h
    obtain ⟨⟨h1, h2⟩, cs, te, h3, h4, h5⟩ := h
    cases zs with
    | true => cases h1
    | false =>
      refine ⟨(n, _), ?_, h5⟩
      have e2 : e = i.size := of_beq h2
      subst e2
      simp only [newCells, ifb_false, lenA, ob_eq, om_eq, Option.bind_some, srcCells]
      rw [h2, ifb_true, h3, Option.bind_some, sub_of h4]
      rfl
  · rename_i q n
    rw [ifp_F] at h
    obtain ⟨hz, h1, h2, h3, h4⟩ := h
    subst hz
    refine ⟨(natOf n, repl (natOf n) z.cells), ?_, h4⟩
    have en := natOf_cast h1
    have hle : natOf n ≤ 16777216 := natOf_le (by omega) h2
    generalize natOf n = m at en hle h3 ⊢
    subst en
    simp only [newCells, ifb_true]
    show ifb (and (Nat.ble m 16777216) (roomy m i.bytes)) (some (m, repl m z.cells)) none = _
    rw [show Nat.ble m 16777216 = true from ble_t hle, h3]; rfl
  · rw [obW_iff] at h
    obtain ⟨q, h1, h2⟩ := h
    exact ⟨q, h1, h2⟩

/-! copy -/
theorem srcW_sound {st : St} {size n : Nat} {x : AV} {k : List AV → Prop} (h : srcW st size n x k) : ∃ cs, srcCells st size n x = some cs ∧ k cs := by
  unfold srcW at h
  split at h
  · rw [ifp_F, rowW_iff] at h
    obtain ⟨h1, cs, te, h3, h4, h5⟩ := h
    refine ⟨_, ?_, h5⟩
    simp only [srcCells, h1, ifb_true, ob_eq, h3, Option.bind_some]
    exact sub_of h4
  · rw [ifp_F] at h
    obtain ⟨h1, h4, h5⟩ := h
    refine ⟨_, ?_, h5⟩
    simp only [srcCells, h1, ifb_true]
    rw [sub_of (by rw [Nat.zero_add]; exact h4), List.drop_zero]
  · exact obW_iff.1 h
theorem srcCells_zero {st : St} {size : Nat} {x : AV} {cs : List AV} (h : srcCells st size 0 x = some cs) : cs = [] := by
  unfold srcCells at h
  have hz : Nat.mul 0 size = 0 := Nat.zero_mul _
  split at h
  · rw [ifb_none] at h
    simp only [ob_some, hz] at h
    obtain ⟨_, r, _, h⟩ := h
    exact List.length_eq_zero_iff.1 (sub_some h).2.2
  · injection h with h; exact h.symm
  · simp only [ifb_none, om_some] at h
    obtain ⟨_, l, h1, rfl⟩ := h
    rw [takeX_some] at h1
    rw [h1.2]; rfl
  · rw [ifb_none, hz] at h
    exact List.length_eq_zero_iff.1 (sub_some h.2).2.2
  · cases h
theorem put_same {α : Type} {x : α} : ∀ (n : Nat) (t : Tr α) (k : Nat), k < n → t.get k = some x → Tr.put (some x) n t k = t
  | 0, t, k, h, _ => by omega
  | n + 1, .leaf, k, h, hg => by simp [Tr.get_leaf] at hg
  | n + 1, .node l v r, k, h, hg => by
    rw [Tr.put_node]
    rw [Tr.get_node] at hg
    by_cases hk : k = 0
    · rw [if_pos hk] at hg ⊢; rw [hg]
    · rw [if_neg hk] at hg ⊢
      by_cases h2 : k % 2 = 1
      · rw [if_pos h2] at hg ⊢; rw [put_same n l _ (by omega) hg]
      · rw [if_neg h2] at hg ⊢; rw [put_same n r _ (by omega) hg]
theorem St.put_same {st : St} {b : Nat} {o : Ob} (h : st.heap.get b = some o) : st.put b o = st := by
  show (⟨st.heap.set b o, st.next, st.vm, st.gl, st.rw⟩ : St) = st
  rw [show st.heap.set b o = st.heap from Go.Det.put_same _ _ _ (Nat.lt_succ_self _) h]
theorem rowOf_get {st : St} {b : Nat} {cs : List AV} {e : TypeId} (h : rowOf st b = some (cs, e)) : st.heap.get b = some (.row cs e) := by
  unfold rowOf at h
  rw [ob_some] at h
  obtain ⟨o, h1, h2⟩ := h
  cases o <;> simp at h2
  obtain ⟨rfl, rfl⟩ := h2
  exact h1
theorem copyW_sound {st : St} {dT : TypeId} {d s : AV} {k : AV → St → Prop} (h : copyW P st dT d s k) : ∃ v st', copyA P st dT d s = some (v, st') ∧ k v st' := by
  unfold copyW at h
  split at h
  · rename_i b o len cap ex e'
    rw [obW_iff] at h
    obtain ⟨u, hu, h⟩ := h
    split at h
    · rename_i elem
      simp only [obW_iff] at h
      obtain ⟨e, he, m, hm, n, hn, h⟩ := h
      rw [ifp_F] at h
      obtain ⟨h1, h⟩ := h
      obtain ⟨cs, h2, h⟩ := srcW_sound h
      rw [rowW_iff] at h
      obtain ⟨rc, te, h3, h⟩ := h
      rw [ifp_F] at h
      obtain ⟨h4, h5, h6⟩ := h
      have h2' : srcCells st e (ifb (Nat.ble m n) m n) s = some cs := h2
      refine ⟨_, _, ?_, h6⟩
      simp only [copyA, hu, ob_eq, he, Option.bind_some, hm, hn, h2', h1, ifb_true]
      by_cases hq : ifb (Nat.ble m n) m n = 0
      · have hcs : cs = [] := by rw [hq] at h2'; exact srcCells_zero h2'
        subst hcs
        rw [beq_t hq, ifb_true]
        show some (AV.int .i64 0, st) = some (AV.int .i64 (.ofNat (ifb (Nat.ble m n) m n)), _)
        rw [hq]
        have : setAt o [] rc = rc := by simp [setAt]
        rw [this, St.put_same (rowOf_get h3)]
        rfl
      · rw [beq_f hq, ifb_false]
        simp only [storeCellsA, ob_eq, h3, Option.bind_some, h4, ifb_true, om_eq, overAt_of h5]
        rfl
    · exact h.elim
  · rw [obW_iff] at h
    obtain ⟨p, h1, h2⟩ := h
    exact ⟨p.1, p.2, h1, h2⟩

/-! Slices that are made. -/
theorem makeW_sound {vm : Bool} {name : Nat} {t : TypeId} {l c : AV} {k : AV → Ob → Prop} (h : makeW P vm name t l c k) : ∃ v o, makeSliceA P vm name t l c = some (v, o) ∧ k v o := by
  unfold makeW at h
  split at h
  · rename_i q n q2 m
    rw [obW_iff] at h
    obtain ⟨u, hu, h⟩ := h
    split at h
    · rename_i elem
      simp only [obW_iff] at h
      obtain ⟨i, hi, z, hz, h⟩ := h
      rw [ifp_F, Bool.and_eq_true] at h
      obtain ⟨⟨h1, h2⟩, n0, nm, mm, hr, h⟩ := h
      have en := natOf_cast n0
      have em := natOf_cast (show 0 ≤ m by omega)
      have hle : natOf n ≤ natOf m := natOf_le n0 (by rw [em] at nm; exact nm)
      have hmm : natOf m ≤ 16777216 := natOf_le (by omega) mm
      have key : ∀ v o, (ifb vm (ifb (Nat.beq (natOf n) 0) (some (AV.vs [] 0 (natOf m) true (some name) i.size, Ob.spare)) none) (some (.slice name 0 (natOf n) (natOf m) true i.size, .row (repl (natOf m) z.cells) elem))) = some (v, o) →
          makeSliceA P vm name t (.int q n) (.int q2 m) = some (v, o) := by
        intro v o e
        rw [en, em]
        simp only [makeSliceA, hu, ob_eq, hi, hz, Option.bind_some]
        rw [show Nat.ble (natOf n) (natOf m) = true from ble_t hle, show Nat.ble (natOf m) 16777216 = true from ble_t hmm, hr]
        simp only [Bool.and_self, ifb_true, h1, h2]
        exact e
      rcases ifp_iff.1 h with ⟨rfl, h3, h4⟩ | ⟨rfl, h4⟩
      · subst h3
        exact ⟨_, _, key _ _ rfl, h4⟩
      · exact ⟨_, _, key _ _ rfl, h4⟩
    · exact h.elim
  · exact h.elim
theorem freshW_sound {vm : Bool} {T : Tr AV} {name : Nat} {op : Op} {k : AV → Ob → Prop} (h : freshW P vm T name op k) : ∃ v o, freshA P vm T name op = some (v, o) ∧ k v o := by
  unfold freshW at h
  split at h
  · simp only [obW_iff] at h
    obtain ⟨a, h1, b, h2, h⟩ := h
    obtain ⟨v, o, h3, h4⟩ := makeW_sound h
    exact ⟨v, o, by simp only [freshA, ob_eq, h1, h2, Option.bind_some]; exact h3, h4⟩
  · rw [obW_iff] at h
    obtain ⟨q, h1, h2⟩ := h
    exact ⟨q.1, q.2, h1, h2⟩

theorem appendW_sound {sym : TypeId → Bool} {st : St} {sT : TypeId} {xT : Option TypeId} {s x : AV} {k : AV → St → Prop} (h : appendW P sym st sT xT s x k) : ∃ v st', appendA P st sT xT s x = some (v, st') ∧ k v st' := by
  unfold appendW at h
  rw [obW_iff] at h
  obtain ⟨d, hd, h⟩ := h
  split at h
  · rename_i elem
    simp only [obW_iff] at h
    obtain ⟨i, hi, z, hz, zs, hzs, h⟩ := h
    obtain ⟨q, hq, h⟩ := newW_sound h
    rw [ifp_F] at h
    obtain ⟨hc, h⟩ := h
    unfold ontoW at h
    split at h
    · rcases ifp_iff.1 h with ⟨hvm, h⟩ | ⟨hvm, h⟩
      · rcases ifp_iff.1 h with ⟨h1, h⟩ | ⟨h1, h⟩
        · exact ⟨_, _, by simp only [appendA, hd, ob_eq, hi, hz, hzs, hq, Option.bind_some, hc, ifb_true, h1], h⟩
        · rw [ifp_F] at h
          exact ⟨_, _, by simp only [appendA, hd, ob_eq, hi, hz, hzs, hq, Option.bind_some, hc, ifb_true, h1, ifb_false, h.1, hvm], h.2⟩
      · rcases ifp_iff.1 h with ⟨_, h1, h2, h3⟩ | ⟨_, h⟩
        · exact ⟨_, _, by simp only [appendA, hd, ob_eq, hi, hz, hzs, hq, Option.bind_some, hc, ifb_true, show Nat.beq q.1 0 = false from beq_f h1, ifb_false, h2, hvm], h3⟩
        · obtain ⟨p, h1, h2⟩ := h
          exact ⟨p.1, p.2, h1, h2⟩
    · rename_i l len cap ex own e
      rw [ifp_F] at h
      obtain ⟨he, h⟩ := h
      split at h
      · rename_i b
        rw [ifp_F] at h
        obtain ⟨h2, h⟩ := h
        rw [obW_iff] at h
        obtain ⟨u, h3, h⟩ := h
        exact ⟨_, _, by simp only [appendA, hd, ob_eq, hi, hz, hzs, hq, Option.bind_some, hc, ifb_true, he, h2, h3], h⟩
      · rcases ifp_iff.1 h with ⟨h1, h⟩ | ⟨h1, h⟩
        · exact ⟨_, _, by simp only [appendA, hd, ob_eq, hi, hz, hzs, hq, Option.bind_some, hc, ifb_true, he, h1], h⟩
        · rw [ifp_F] at h
          obtain ⟨h2, h⟩ := h
          rw [ifp_F] at h
          exact ⟨_, _, by simp only [appendA, hd, ob_eq, hi, hz, hzs, hq, Option.bind_some, hc, ifb_true, he, h1, ifb_false, h2, h.1], h.2⟩
    · rename_i b o len cap ex e _
      rw [rowW_iff] at h
      obtain ⟨rc, te, h0, h⟩ := h
      have e1 : Nat.mul len e = rc.length → sub 0 (Nat.mul len e) rc = some rc := fun h3 => by
        show takeX (Nat.mul len e) rc = some rc
        rw [takeX_some, h3]; exact ⟨Nat.le_refl _, by rw [List.take_of_length_le (Nat.le_refl _)]⟩
      rcases ifp_iff.1 h with ⟨hx, h⟩ | ⟨_, h⟩
      · simp only [Bool.and_eq_true] at hx
        obtain ⟨_, he⟩ := hx
        rcases ifp_iff.1 h with ⟨hex, h1, h2, h3, h4, h5⟩ | ⟨hex, ⟨h1, h2, h3, h4, h5⟩ | ⟨h1, h2, h3, h5⟩⟩
        · subst hex
          subst h2
          exact ⟨_, _, by simp only [appendA, hd, ob_eq, hi, hz, hzs, hq, Option.bind_some, hc, ifb_true, he, show Nat.ble (Nat.add len q.1) cap = false from ble_f h1, ifb_false, h4, h0, e1 h3], h5⟩
        · subst hex
          subst h2
          have e2 : Nat.beq (Nat.add 0 (Nat.mul len e)) rc.length = true := beq_t (by rw [h3]; exact Nat.zero_add _)
          exact ⟨_, _, by simp only [appendA, hd, ob_eq, hi, hz, hzs, hq, Option.bind_some, hc, ifb_true, he, show Nat.ble (Nat.add len q.1) cap = false from ble_f h1, ifb_false, h4, h0, e1 h3, e2, Nat.beq, Bool.and_self], h5⟩
        · subst hex
          obtain ⟨hsc, hc2⟩ : allScalar q.2 = true ∧ Nat.beq z.cells.length i.size = true := by rw [Bool.and_eq_true] at hc; exact hc
          exact ⟨_, _, by simp only [appendA, hd, ob_eq, hi, hz, hzs, hq, Option.bind_some, hsc, hc2, Bool.and_self, ifb_true, he, show Nat.ble (Nat.add len q.1) cap = true from ble_t h1, show Nat.beq q.1 0 = false from beq_f h2, ifb_false, storeCellsA, h0, om_eq, overAt_of h3, Option.map_some]; rfl, h5⟩
      · obtain ⟨p, h1, h2⟩ := h
        exact ⟨p.1, p.2, h1, h2⟩
    · obtain ⟨p, h1, h2⟩ := h
      exact ⟨p.1, p.2, h1, h2⟩
  · exact h.elim

/-! Maps. -/
theorem valW_sound {R k : AV → Prop} {d : TypeDesc} (h : valW R k d) : ∃ v, R v ∧ k v := by
  unfold valW at h
  split at h
  · obtain ⟨x, h1, h2⟩ := h; exact ⟨_, h1, h2⟩
  · obtain ⟨x, h1, h2⟩ := h; exact ⟨_, h1, h2⟩
  · obtain ⟨x, h1, h2⟩ := h; exact ⟨_, h1, h2⟩
  · obtain ⟨l', n, c, x, w, e, h1, h2⟩ := h; exact ⟨_, h1, h2⟩
  · exact h
theorem mapW_sound {sym : TypeId → Bool} {st : St} {t : TypeId} {m k : AV} {els : Prop} {kk : Nat → List AEntry → Nat → TypeId → Prop} (h : mapW P sym st t m k els kk) :
    els ∨ ∃ b key elem q, m = .map b ∧ P.underlying t = some (.map key elem) ∧ keyKind P key k = true ∧ mapOf st b = some q ∧ kk b q.1 q.2 elem := by
  unfold mapW at h
  split at h
  · rcases ifp_iff.1 h with ⟨_, h⟩ | ⟨_, h⟩
    · rw [obW_iff] at h
      obtain ⟨d, hd, h⟩ := h
      split at h
      · rw [ifp_F, obW_iff] at h
        obtain ⟨h1, ⟨es, c⟩, h2, h3⟩ := h
        exact .inr ⟨_, _, _, _, rfl, hd, h1, h2, h3⟩
      · exact h.elim
    · exact .inl h
  · exact .inl h
theorem lookupW_sound {sym : TypeId → Bool} {st : St} {t : TypeId} {m k : AV} {ok : Bool} {Q : AV → Prop} (h : lookupW P sym st t m k ok Q) : ∃ v, lookupA P st t m k ok = some v ∧ Q v := by
  rcases mapW_sound h with h | ⟨b, key, elem, q, rfl, h1, h2, h3, h⟩
  · exact obW_iff.1 h
  · rw [obW_iff] at h
    obtain ⟨z, hz, h⟩ := h
    rw [obW_iff] at h
    obtain ⟨d, hd, c, h⟩ := h
    obtain ⟨v, ⟨r, k1, k2, k3⟩, h⟩ := valW_sound h
    refine ⟨_, ?_, h⟩
    simp only [lookupA, h1, h2, ifb_true, entriesOf, om_eq, h3, Option.map_some, ob_eq, Option.bind_some, k1]
    cases r with
    | none => subst k2; subst k3; simp only [hz, Option.map_some]; rfl
    | some p => subst k2; subst k3; rfl
theorem mapUpdateW_sound {sym : TypeId → Bool} {st : St} {t : TypeId} {m k v : AV} {Q : St → Prop} (h : mapUpdateW P sym st t m k v Q) : ∃ st', mapUpdateA P st t m k v = some st' ∧ Q st' := by
  rcases mapW_sound h with h | ⟨b, key, elem, q, rfl, h1, h2, h3, es', c', ⟨r, k1, k2⟩, h⟩
  · exact obW_iff.1 h
  · refine ⟨_, ?_, h⟩
    simp only [mapUpdateA, h1, h2, ifb_true, h3, ob_eq, Option.bind_some, k1, om_eq, Option.map_some]
    cases r with
    | none => obtain ⟨rfl, rfl⟩ := k2; rfl
    | some p => obtain ⟨rfl, rfl⟩ := k2; rfl
theorem mapEntryW_sound {sym : TypeId → Bool} {st : St} {t : TypeId} {m k : AV} {Q : AV → St → Prop} (h : mapEntryW P sym st t m k Q) : ∃ v st', mapEntryA P st t m k = some (v, st') ∧ Q v st' := by
  rcases mapW_sound h with h | ⟨b, key, elem, q, rfl, h1, h2, h3, h⟩
  · obtain ⟨⟨v, s⟩, h1, h2⟩ := obW_iff.1 h; exact ⟨v, s, h1, h2⟩
  · rw [obW_iff] at h
    obtain ⟨z, hz, h⟩ := h
    rw [obW_iff] at h
    obtain ⟨d, hd, n, es', c', h⟩ := h
    obtain ⟨v, ⟨r, k1, k2⟩, h⟩ := valW_sound h
    refine ⟨_, _, ?_, h⟩
    simp only [mapEntryA, h1, h2, ifb_true, h3, ob_eq, Option.bind_some, k1, om_eq]
    cases r with
    | none => obtain ⟨rfl, rfl, rfl, rfl⟩ := k2; simp only [hz, Option.map_some]
    | some p => obtain ⟨rfl, ⟨e, he, rfl⟩, rfl, rfl⟩ := k2; simp only [he, Option.map_some]
theorem entryStoreW_sound {sym : TypeId → Bool} {st : St} {t : TypeId} {m s v : AV} {Q : St → Prop} (h : entryStoreW sym st t m s v Q) : ∃ st', entryStoreA st m s v = some st' ∧ Q st' := by
  unfold entryStoreW at h
  split at h
  · rcases ifp_iff.1 h with ⟨_, h⟩ | ⟨_, h⟩
    · rw [obW_iff] at h
      obtain ⟨⟨es, c⟩, h1, es', ⟨h2, i, h3, rfl⟩, h⟩ := h
      refine ⟨_, ?_, h⟩
      simp only [entryStoreA, show Nat.ble _ 9223372036854775807 = true from ble_t h2, ifb_true, h1, ob_eq, Option.bind_some, h3, om_eq, Option.map_some]
    · exact obW_iff.1 h
  · exact obW_iff.1 h
theorem deleteW_sound {sym : TypeId → Bool} {st : St} {t : TypeId} {m k : AV} {Q : St → Prop} (h : deleteW P sym st t m k Q) : ∃ st', deleteA P st t m k = some st' ∧ Q st' := by
  rcases mapW_sound h with h | ⟨b, key, elem, q, rfl, h1, h2, h3, es', ⟨r, k1, rfl⟩, h⟩
  · exact obW_iff.1 h
  · refine ⟨_, ?_, h⟩
    simp only [deleteA, h1, h2, ifb_true, h3, ob_eq, Option.bind_some, k1, om_eq, Option.map_some]
    cases r <;> rfl
theorem ltYesW_sound {op : BinOp} {t : TypeId} {x y : AV} {k : AV → Prop} (h : ltYesW op x y k) : ∃ v, binA P op t x y = some v ∧ k v := by
  unfold ltYesW at h
  split at h
  · rename_i j a j' b
    rw [ifp_F] at h
    obtain ⟨h1, h2, h3⟩ := h
    exact ⟨_, by simp only [binA, isShift, ifb_false, h1, ifb_true, binInt, show leInt b a = false by rw [leInt_eq]; exact decide_eq_false (by omega)]; rfl, h3⟩
  · rename_i j a j' b
    rw [ifp_F] at h
    obtain ⟨h1, h2, h3⟩ := h
    exact ⟨_, by simp only [binA, isShift, ifb_false, h1, ifb_true, binInt, show leInt a b = true by rw [leInt_eq]; exact decide_eq_true h2], h3⟩
  · rename_i j a j' b
    rw [ifp_F] at h
    obtain ⟨h1, h2, h3⟩ := h
    exact ⟨_, by simp only [binA, isShift, ifb_false, h1, ifb_true, binInt, show leInt a b = false by rw [leInt_eq]; exact decide_eq_false (by omega)]; rfl, h3⟩
  · rename_i j a j' b
    rw [ifp_F] at h
    obtain ⟨h1, h2, h3⟩ := h
    exact ⟨_, by simp only [binA, isShift, ifb_false, h1, ifb_true, binInt, show leInt b a = true by rw [leInt_eq]; exact decide_eq_true h2], h3⟩
  · rename_i j a j' b
    rw [ifp_F] at h
    obtain ⟨h1, h2, h3⟩ := h
    have e : eqInt a b = false := by rw [← Bool.not_eq_true, eqInt_iff]; exact h2
    exact ⟨_, by simp only [binA, isShift, ifb_false, h1, ifb_true, binInt, e], h3⟩
  · exact h.elim
theorem aopW_sound {T : Tr AV} {st : St} {op : Op} {kv : AV → St → Prop} {kc : FuncId → List AV → Prop} {ky kd : Nat → List AV → Prop} {fl : Flags} (h : aopW fl P T st op kv kc ky kd) : Takes (aop P T st op) kv kc ky kd := by
  unfold aopW at h
  split at h
  · rename_i t a
    rw [obW_iff] at h
    obtain ⟨av, h1, h⟩ := h
    obtain ⟨v, h2, h3⟩ := loadW_sound h
    exact ⟨.val v st, by simp only [ob_eq] at h2; simp only [aop, ob_eq, h1, Option.bind_some]; exact h2, h3⟩
  · rename_i t a v
    simp only [obW_iff] at h
    obtain ⟨av, h1, vv, h2, h⟩ := h
    obtain ⟨st', h3, h4⟩ := storeW_sound h
    exact ⟨.val undefA st', by simp only [aop, ob_eq, h1, h2, Option.bind_some]; exact h3, h4⟩
  · rename_i t l c
    obtain ⟨v, o, h1, h2⟩ := freshW_sound h
    exact ⟨.val v (st.new o), by simp only [aop, freshR, h1, om_eq]; rfl, h2⟩
  · rename_i op t x y yt
    simp only [obW_iff] at h
    obtain ⟨a, h1, b, h2, h⟩ := h
    rw [ifp_F] at h
    obtain ⟨h3, h⟩ := h
    obtain ⟨v, h4, h5⟩ : ∃ v, binA P op t a b = some v ∧ kv v st := by
      rcases ifp_iff.1 h with ⟨_, h⟩ | ⟨_, h⟩
      · exact ltYesW_sound h
      rcases ifp_iff.1 h with ⟨_, h⟩ | ⟨_, h⟩
      · exact binYesW_sound h
      · exact binW_sound h
    exact ⟨.val v st, by simp only [aop, ob_eq, h1, h2, Option.bind_some, h3, ifb_true, h4]; rfl, h5⟩
  · rename_i t x i
    simp only [obW_iff] at h
    obtain ⟨a, h1, b, h2, h⟩ := h
    obtain ⟨v, h4, h5⟩ := indexAddrW_sound h
    exact ⟨.val v st, by simp only [aop, ob_eq, h1, h2, Option.bind_some, h4]; rfl, h5⟩
  · rename_i t x lo hi mx
    simp only [obW_iff] at h
    obtain ⟨a, h1, l, h2, hh, h3, m, h4, h⟩ := h
    obtain ⟨v, h5, h6⟩ := sliceW_sound h
    exact ⟨.val v st, by simp only [aop, ob_eq, h1, h2, h3, h4, Option.bind_some, h5]; rfl, h6⟩
  · rename_i c
    rcases ifp_iff.1 h with ⟨hc, h⟩ | ⟨hc, h⟩
    · obtain ⟨callee, args, at_⟩ := c
      dsimp only at hc h
      unfold isAppend at hc
      split at hc
      · rw [obW_iff] at h
        obtain ⟨as, h1, h⟩ := h
        split at h
        · rename_i s x t r he
          obtain ⟨v, st', h2, h3⟩ := appendW_sound h
          exact ⟨.val v st', by simp only [aop, builtinA, ob_eq, h1, Option.bind_some, arg2]; rw [he]; simp only [h2]; rfl, h3⟩
        · exact h.elim
      · cases hc
    · rcases ifp_iff.1 h with ⟨hc2, h⟩ | ⟨hc2, h⟩
      · obtain ⟨callee, args, at_⟩ := c
        dsimp only at hc hc2 h
        unfold isCopy at hc2
        split at hc2
        · rw [obW_iff] at h
          obtain ⟨as, h1, h⟩ := h
          split at h
          · rename_i d s t r he
            obtain ⟨v, st', h2, h3⟩ := copyW_sound h
            exact ⟨.val v st', by simp only [aop, builtinA, ob_eq, h1, Option.bind_some, arg2]; rw [he]; simp only [h2]; rfl, h3⟩
          · exact h.elim
        · cases hc2
      · rcases ifp_iff.1 h with ⟨hc3, h⟩ | ⟨hc3, h⟩
        · obtain ⟨callee, args, at_⟩ := c
          dsimp only at hc hc2 hc3 h
          unfold isDelete at hc3
          split at hc3
          · rw [obW_iff] at h
            obtain ⟨as, h1, h⟩ := h
            split at h
            · rename_i m k t r he
              obtain ⟨st', h2, h3⟩ := deleteW_sound h
              exact ⟨.val undefA st', by simp only [aop, builtinA, ob_eq, h1, Option.bind_some, arg2]; rw [he]; simp only [h2]; rfl, h3⟩
            · exact h.elim
          · cases hc3
        · obtain ⟨r, h1, h2⟩ := obW_iff.1 h
          exact ⟨r, h1, h2⟩
  · rename_i t x i ok
    simp only [obW_iff] at h
    obtain ⟨a, h1, b, h2, h⟩ := h
    obtain ⟨v, h3, h4⟩ := lookupW_sound h
    exact ⟨.val v st, by simp only [aop, ob_eq, h1, h2, Option.bind_some, h3]; rfl, h4⟩
  · rename_i t m k x
    simp only [obW_iff] at h
    obtain ⟨a, h1, b, h2, c, h3, h⟩ := h
    obtain ⟨st', h4, h5⟩ := mapUpdateW_sound h
    exact ⟨.val undefA st', by simp only [aop, ob_eq, h1, h2, h3, Option.bind_some, h4]; rfl, h5⟩
  · rename_i t m k
    simp only [obW_iff] at h
    obtain ⟨a, h1, b, h2, h⟩ := h
    obtain ⟨v, st', h4, h5⟩ := mapEntryW_sound h
    exact ⟨.val v st', by simp only [aop, ob_eq, h1, h2, Option.bind_some, h4]; rfl, h5⟩
  · rename_i t m s x
    simp only [obW_iff] at h
    obtain ⟨a, h1, b, h2, c, h3, h⟩ := h
    obtain ⟨st', h4, h5⟩ := entryStoreW_sound h
    exact ⟨.val undefA st', by simp only [aop, ob_eq, h1, h2, h3, Option.bind_some, h4]; rfl, h5⟩
  · obtain ⟨r, h1, h2⟩ := obW_iff.1 h
    exact ⟨r, h1, h2⟩

end Go.Det
