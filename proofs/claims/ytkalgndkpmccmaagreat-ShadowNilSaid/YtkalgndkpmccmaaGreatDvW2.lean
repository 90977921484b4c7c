/- What is reckoned ahead of a piece of code holds: operations. -/
import Derived.Test.YtkalgndkpmccmaaGreatDvW
set_option linter.unusedVariables false
set_option linter.unusedSimpArgs false
set_option linter.constructorNameAsVariable false
namespace Go.Det
variable {P : Program}

theorem ifp_iff {b : Bool} {x y : Prop} : ifp b x y ↔ (b = true ∧ x) ∨ (b = false ∧ y) := by cases b <;> simp [ifp]
theorem ifp_tt (b : Bool) : ifp b True True := by cases b <;> trivial
theorem ifp_true (x y : Prop) : ifp true x y = x := rfl
theorem ifp_false (x y : Prop) : ifp false x y = y := rfl
theorem ifp_F {b : Bool} {x : Prop} : ifp b x False ↔ b = true ∧ x := by cases b <;> simp [ifp]
theorem obW_iff {α : Type} {o : Option α} {k : α → Prop} : obW o k ↔ ∃ a, o = some a ∧ k a := by cases o <;> simp [obW]

theorem natOf_cast {z : Int} (h : 0 ≤ z) : z = .ofNat (natOf z) := by
  cases z with
  | ofNat n => rfl
  | negSucc n => omega
theorem natOf_le {z : Int} {y : Nat} (h : 0 ≤ z) (h' : z ≤ (y : Int)) : natOf z ≤ y := by
  cases z with
  | ofNat n => exact Int.ofNat_le.1 h'
  | negSucc n => omega

theorem sub_of {α : Type} : ∀ {o n : Nat} {l : List α}, o + n ≤ l.length → sub o n l = some ((l.drop o).take n)
  | 0, n, l, h => by
    show takeX n l = _
    rw [takeX_some]; exact ⟨by omega, by simp⟩
  | o + 1, n, [], h => by simp at h
  | o + 1, n, x :: l, h => by
    show sub o n l = _
    rw [sub_of (by simp at h; omega)]; simp
theorem sub_of_nth {α : Type} {o n : Nat} {l r : List α} (hr : r.length = n) (hn : 1 ≤ n) (h : ∀ i, i < n → nth (o + i) l = r[i]?) : sub o n l = some r := by
  have hlen : o + n ≤ l.length := by
    have := h (n - 1) (by omega)
    rw [nth_eq, List.getElem?_eq_getElem (l := r) (by omega)] at this
    rcases Nat.lt_or_ge (o + (n - 1)) l.length with h1 | h1
    · omega
    · rw [List.getElem?_eq_none h1] at this; cases this
  rw [sub_of hlen]
  congr 1
  apply List.ext_getElem?
  intro i
  by_cases c : i < n
  · have := h i c
    rw [nth_eq] at this
    rw [List.getElem?_take_of_lt c, List.getElem?_drop, this]
  · rw [List.getElem?_eq_none (by rw [List.length_take]; omega), List.getElem?_eq_none (by omega)]

/-! Reading. -/
theorem cellsW_sound {l : List AV} {o : Nat} {k : AV → Prop} {d : TypeDesc} (h : cellsW l o k d) : ∃ v, nth o l = some v ∧ k v := by
  unfold cellsW at h
  split at h
  · obtain ⟨x, h1, h2⟩ := h; exact ⟨_, h1, h2⟩
  · obtain ⟨x, h1, h2⟩ := h; exact ⟨_, h1, h2⟩
  · obtain ⟨x, h1, h2⟩ := h; exact ⟨_, h1, h2⟩
  · rcases h with ⟨h1, h2⟩ | ⟨l', n, c, x, w, e, h1, h2⟩
    · exact ⟨_, h1, h2⟩
    · exact ⟨_, h1, h2⟩
  · exact h
theorem fieldsW_sound {l : List AV} {o : Nat} : ∀ {fs : List Field} {j : Nat} {k : List AV → Prop}, fieldsW P l o k fs → offsOk j fs = true → ∃ vs, vs.length = fs.length ∧ (∀ i, i < fs.length → nth (o + (j + i)) l = vs[i]?) ∧ k vs
  | [], j, k, h, _ => ⟨[], rfl, fun i hi => by simp at hi, h⟩
  | f :: fs, j, k, h, ho => by
    simp only [fieldsW, obW_iff] at h
    obtain ⟨d, hd, h⟩ := h
    have h' : cellsW l (Nat.add o f.offset) (fun v => fieldsW P l o (fun vs => k (v :: vs)) fs) d := by
      rcases ifp_iff.1 h with ⟨_, h⟩ | ⟨_, h⟩
      · exact h.elim
      · exact h
    obtain ⟨v, h1, h2⟩ := cellsW_sound h'
    simp only [offsOk, ifb_eq] at ho
    by_cases c : f.offset = j
    · rw [if_pos (beq_t c)] at ho
      obtain ⟨vs, k1, k2, k3⟩ := fieldsW_sound (j := j + 1) h2 ho
      refine ⟨v :: vs, by simp [k1], fun i hi => ?_, k3⟩
      cases i with
      | zero => simp only [Nat.add_zero, List.getElem?_cons_zero]; rw [← c]; exact h1
      | succ i =>
        have := k2 i (by simp at hi; omega)
        rw [List.getElem?_cons_succ, ← this]
        congr 1; omega
    · rw [if_neg (by rw [beq_f c]; simp)] at ho; cases ho
theorem readW_sound {t : TypeId} {l : List AV} {o : Nat} {k : AV → Prop} (h : readW P t l o k) : ∃ v, partA P t l o = some v ∧ k v := by
  unfold readW at h
  rw [obW_iff] at h
  obtain ⟨d, hd, h⟩ := h
  have plain : (∀ fs, d ≠ .struct fs) → (∀ n e, d ≠ .array n e) → cellsW l o k d → ∃ v, partA P t l o = some v ∧ k v := by
    intro n1 n2 hc
    obtain ⟨v, h1, h2⟩ := cellsW_sound hc
    refine ⟨v, ?_, h2⟩
    have ha : aggT P t = some false := by
      unfold aggT; rw [hd]
      cases d <;> first | rfl | exact absurd rfl (n1 _) | exact absurd rfl (n2 _ _)
    simp only [partA, ob_eq, ha, Option.bind_some, ifb_false, h1]
  split at h
  · rename_i fs
    rw [obW_iff] at h
    obtain ⟨n, hn, h⟩ := h
    rw [ifp_F] at h
    simp only [Bool.and_eq_true] at h
    obtain ⟨⟨h1, h2, h3⟩, h⟩ := h
    obtain ⟨vs, k1, k2, k3⟩ := fieldsW_sound h h3
    refine ⟨.agg vs, ?_, k3⟩
    have ha : aggT P t = some true := by unfold aggT; rw [hd]
    have e2 : fs.toList.length = n := of_beq h2
    simp only [partA, ob_eq, ha, Option.bind_some, ifb_true, hn, om_eq]
    rw [sub_of_nth (r := vs) (by rw [k1, e2]) (of_ble h1) (fun i hi => by have := k2 i (by omega); rwa [Nat.zero_add] at this)]
    rfl
  · exact h.elim
  · rename_i n1 n2
    exact plain (fun fs e => n1 fs e) (fun n e e' => n2 n e e') h

/-- What an operation answers, handed on. -/
def Takes (x : Option OpR) (kv : AV → St → Prop) (kc : FuncId → List AV → Prop) (ky kd : Nat → List AV → Prop) : Prop := ∃ r, x = some r ∧ OpR.rec (motive := fun _ => Prop) kv kc ky kd r

theorem loadW_sound {st : St} {t : TypeId} {a : AV} {k : AV → Prop} (h : loadW P st t a k) :
    ∃ v, ptrV a (fun b o => jst st (loadA P st t b o)) (fun l o => jst st (partA P t l o)) (fun g o => jst st (ob (st.gl.get g) fun l => partA P t l o)) = some (.val v st) ∧ k v := by
  unfold loadW at h
  split at h
  · rw [obW_iff] at h
    obtain ⟨v, h1, h2⟩ := h
    exact ⟨v, by simp only [ptrV]; rw [h1]; rfl, h2⟩
  · obtain ⟨v, h1, h2⟩ := readW_sound h
    exact ⟨v, by simp only [ptrV]; rw [h1]; rfl, h2⟩
  · simp only [obW_iff] at h
    obtain ⟨l, h1, v, h2, h3⟩ := h
    exact ⟨v, by simp only [ptrV, ob_eq]; rw [h1, Option.bind_some, h2]; rfl, h3⟩
  · exact h.elim

theorem fieldsEqW_sound {eq : TypeId → AV → AV → (Bool → Prop) → Prop} {eq' : TypeId → AV → AV → Option Bool} (he : ∀ t x y k, eq t x y k → ∃ b, eq' t x y = some b ∧ k b) {xs ys : List AV} {k : Bool → Prop} :
    ∀ fs : List Field, fieldsEqW P eq xs ys k fs → ∃ b, fieldsEqA P eq' xs ys fs = some b ∧ k b
  | [], h => ⟨true, rfl, h⟩
  | f :: fs, h => by
    simp only [fieldsEqW] at h
    simp only [fieldsEqA]
    rcases ifp_iff.1 h with ⟨h1, h⟩ | ⟨h1, h⟩
    · rw [h1, ifb_true]; exact fieldsEqW_sound he fs h
    · rw [h1, ifb_false]
      simp only [obW_iff] at h
      obtain ⟨a, ha, b, hb, h⟩ := h
      obtain ⟨r, hr, h⟩ := he _ _ _ _ h
      simp only [ob_eq, ha, hb, hr, Option.bind_some]
      rcases ifp_iff.1 h with ⟨h2, h⟩ | ⟨h2, h⟩
      · rw [h2, ifb_true]; exact fieldsEqW_sound he fs h
      · rw [h2, ifb_false]; exact ⟨false, rfl, h⟩
theorem eqW_sound : ∀ (d : Nat) (t : TypeId) (x y : AV) (k : Bool → Prop), eqW P d t x y k → ∃ b, eqA P d t x y = some b ∧ k b
  | 0, t, x, y, k, h => by simp [eqW] at h
  | d + 1, t, x, y, k, h => by
    unfold eqW at h
    split at h
    · rw [obW_iff] at h
      obtain ⟨u, hu, h⟩ := h
      split at h
      · rcases ifp_iff.1 h with ⟨_, h⟩ | ⟨h1, h⟩
        · exact h.elim
        · obtain ⟨b, h2, h3⟩ := fieldsEqW_sound (eqW_sound d) _ h
          refine ⟨b, ?_, h3⟩
          simp only [eqA, hu, h1, ifb_false, h2]
      · exact h.elim
    · exact obW_iff.1 h
theorem fieldsYesW_sound {eq : TypeId → AV → AV → Prop} {eq' : TypeId → AV → AV → Option Bool} (he : ∀ t x y, eq t x y → eq' t x y = some true) {xs ys : List AV} :
    ∀ fs : List Field, fieldsYesW P eq xs ys fs → fieldsEqA P eq' xs ys fs = some true
  | [], h => rfl
  | f :: fs, h => by
    simp only [fieldsYesW] at h
    simp only [fieldsEqA]
    rcases ifp_iff.1 h with ⟨h1, h⟩ | ⟨h1, h⟩
    · rw [h1, ifb_true]; exact fieldsYesW_sound he fs h
    · rw [h1, ifb_false]
      simp only [obW_iff] at h
      obtain ⟨a, ha, b, hb, h, h'⟩ := h
      simp only [ob_eq, ha, hb, he _ _ _ h, Option.bind_some, ifb_true]
      exact fieldsYesW_sound he fs h'
theorem yesW_sound : ∀ (d : Nat) (t : TypeId) (x y : AV), yesW P d t x y → eqA P d t x y = some true
  | 0, t, x, y, h => by simp [yesW] at h
  | d + 1, t, x, y, h => by
    unfold yesW at h
    split at h
    · rw [obW_iff] at h
      obtain ⟨u, hu, h⟩ := h
      split at h
      · rcases ifp_iff.1 h with ⟨_, h⟩ | ⟨h1, h⟩
        · exact h.elim
        · simp only [eqA, hu, h1, ifb_false]
          exact fieldsYesW_sound (yesW_sound d) _ h
      · exact h.elim
    · rw [obW_iff] at h
      obtain ⟨u, hu, h⟩ := h
      split at h
      · rw [ifp_F] at h
        obtain ⟨h1, h2⟩ := h
        subst h2
        simp only [eqA, hu, h1, ifb_true]
        rw [eqInt_iff.2 rfl]
      · exact h.elim
    · exact h
theorem binYesW_sound {op : BinOp} {t : TypeId} {x y : AV} {k : AV → Prop} (h : binYesW P op t x y k) : ∃ v, binA P op t x y = some v ∧ k v := by
  have hx : ∀ (r : AV) (f : Bool → AV), f true = r → (∀ q z q' z', ¬(x = .int q z ∧ y = .int q' z')) → True := fun _ _ _ _ => trivial
  unfold binYesW at h
  split at h
  · obtain ⟨h1, h2⟩ := h
    have h3 := yesW_sound _ _ _ _ h1
    refine ⟨_, ?_, h2⟩
    unfold binA
    split
    · rename_i q a q' b
      have : eqKind q q' = true ∧ eqInt a b = true := by
        unfold eqA at h3
        split at h3 <;> simp_all
        rename_i e1 e2 e3
        simp only [ifb_eq] at h3
        split at h3 <;> simp_all
      simp only [isShift, ifb_false, this.1, ifb_true, binInt, this.2]
    · rename_i a b
      have : eqBytes a.data.toList b.data.toList = true := by
        unfold eqA at h3
        split at h3 <;> simp_all
      simp only [this]
    · simp only [h3]; rfl
  · obtain ⟨h1, h2⟩ := h
    have h3 := yesW_sound _ _ _ _ h1
    refine ⟨_, ?_, h2⟩
    unfold binA
    split
    · rename_i q a q' b
      have : eqKind q q' = true ∧ eqInt a b = true := by
        unfold eqA at h3
        split at h3 <;> simp_all
        rename_i e1 e2 e3
        simp only [ifb_eq] at h3
        split at h3 <;> simp_all
      simp only [isShift, ifb_false, this.1, ifb_true, binInt, this.2, Bool.not_true]
    · rename_i a b
      have : eqBytes a.data.toList b.data.toList = true := by
        unfold eqA at h3
        split at h3 <;> simp_all
      simp only [this, Bool.not_true]
    · simp only [h3]; rfl
  · exact h.elim
theorem binW_sound {op : BinOp} {t : TypeId} {x y : AV} {k : AV → Prop} (h : binW P op t x y k) : ∃ v, binA P op t x y = some v ∧ k v := by
  unfold binW at h
  split at h
  · rename_i j a j' b
    rw [ifp_F] at h
    obtain ⟨h1, h2, h3⟩ := h
    refine ⟨_, ?_, h3⟩
    have hb : eqInt b 0 = false := by
      cases hb : eqInt b 0 with
      | false => rfl
      | true => exact absurd (eqInt_iff.1 hb) h2
    simp only [binA, isShift, ifb_false, h1, ifb_true, binInt, hb]
  · rename_i j a j' b
    rw [ifp_F] at h
    obtain ⟨h1, h2, h3⟩ := h
    refine ⟨_, ?_, h3⟩
    have hb : eqInt b 0 = false := by
      cases hb : eqInt b 0 with
      | false => rfl
      | true => exact absurd (eqInt_iff.1 hb) h2
    simp only [binA, isShift, ifb_false, h1, ifb_true, binInt, hb]
  · obtain ⟨b, h1, h2⟩ := eqW_sound _ _ _ _ _ h
    exact ⟨_, by simp only [binA, h1]; rfl, h2⟩
  · obtain ⟨b, h1, h2⟩ := eqW_sound _ _ _ _ _ h
    exact ⟨_, by simp only [binA, h1]; rfl, h2⟩
  · exact obW_iff.1 h

theorem indexAddrW_sound {t : TypeId} {x i : AV} {k : AV → Prop} (h : indexAddrW P t x i k) : ∃ v, indexAddrA P t x i = some v ∧ k v := by
  unfold indexAddrW at h
  split at h
  · rename_i l len c x w e q z
    rw [obW_iff] at h
    obtain ⟨d, hd, h⟩ := h
    split at h
    · rename_i elem
      rw [obW_iff] at h
      obtain ⟨s, hs, h⟩ := h
      rw [ifp_F] at h
      obtain ⟨he, ⟨h1, h2⟩, h3⟩ := h
      refine ⟨_, ?_, h3⟩
      rw [natOf_cast h1] at h2
      have hlt : natOf z < len := by simp at h2; omega
      have : indexAddrA P t (.vs l len c x w e) (.int q (.ofNat (natOf z))) = some (.vptr l (Nat.mul (natOf z) s)) := by
        simp only [indexAddrA, hd, ob_eq, hs, Option.bind_some]
        rw [show Nat.ble (Nat.succ (natOf z)) len = true from ble_t hlt, ifb_true, he, ifb_true]
      rw [← natOf_cast h1] at this
      exact this
    · exact h.elim
  · rename_i b o len c x e q z
    rw [obW_iff] at h
    obtain ⟨d, hd, h⟩ := h
    split at h
    · rename_i elem
      rw [obW_iff] at h
      obtain ⟨s, hs, h⟩ := h
      rw [ifp_F] at h
      obtain ⟨he, ⟨h1, h2⟩, h3⟩ := h
      refine ⟨_, ?_, h3⟩
      rw [natOf_cast h1] at h2
      have hlt : natOf z < len := by simp at h2; omega
      have : indexAddrA P t (.slice b o len c x e) (.int q (.ofNat (natOf z))) = some (.ptr b (Nat.add o (Nat.mul (natOf z) s))) := by
        simp only [indexAddrA, hd, ob_eq, hs, Option.bind_some]
        rw [show Nat.ble (Nat.succ (natOf z)) len = true from ble_t hlt, ifb_true, he, ifb_true]
      rw [← natOf_cast h1] at this
      exact this
    · exact h.elim
  · exact obW_iff.1 h

theorem natW_in {v : AV} {d y : Nat} {k : Nat → Prop} (h : natW (some v) d y k) : ∃ n, natIn v y = some n ∧ n ≤ y ∧ k n := by
  unfold natW at h
  split at h
  · rename_i e; cases e
  · rename_i q z e
    injection e with e; subst e
    obtain ⟨h1, h2, h3⟩ := h
    have hle := natOf_le h1 h2
    refine ⟨natOf z, ?_, hle, h3⟩
    have : natIn (.int q (.ofNat (natOf z))) y = some (natOf z) := by
      simp only [natIn]
      rw [show Nat.ble (natOf z) y = true from ble_t hle, ifb_true]
    rw [← natOf_cast h1] at this
    exact this
  · exact h.elim
noncomputable def mxB (mx : Option AV) (cap : Nat) : Option Nat := match mx with | some v => natIn v cap | none => some cap
noncomputable def hiB (hi mx : Option AV) (len m : Nat) : Option Nat := match hi with | some v => natIn v m | none => (match mx with | some _ => none | none => some len)
noncomputable def loB (lo : Option AV) (h : Nat) : Option Nat := match lo with | some v => natIn v h | none => some 0
theorem boundsA_eq (len cap : Nat) (lo hi mx : Option AV) : boundsA len cap lo hi mx = (mxB mx cap).bind fun m => (hiB hi mx len m).bind fun h => (loB lo h).map fun l => ⟨l, h, m⟩ := by
  simp only [boundsA, ob_eq, om_eq]
  cases lo <;> cases hi <;> cases mx <;> rfl
theorem sliceW_sound {st : St} {t : TypeId} {x : AV} {lo hi mx : Option AV} {k : AV → Prop} (h : sliceW P st t x lo hi mx k) : ∃ v, sliceOpA P st t x lo hi mx = some v ∧ k v := by
  unfold sliceW at h
  split at h
  · rename_i l len cap ex own e
    rw [obW_iff] at h
    obtain ⟨d, hd, h⟩ := h
    split at h
    · rename_i elem
      rw [obW_iff] at h
      obtain ⟨s, hs, h⟩ := h
      rw [ifp_F, Bool.and_eq_true] at h
      obtain ⟨⟨he, hhm⟩, h⟩ := h
      have he' : s = e := of_beq he
      -- the three bounds
      have h1 : ∃ m, mxB mx cap = some m ∧ natW hi len m fun h => natW lo 0 h fun lo => h ≤ len ∧ l.length = Nat.mul len e ∧
          k (.vs ((l.drop (Nat.mul lo s)).take (Nat.mul (Nat.sub h lo) s)) (Nat.sub h lo) (Nat.sub m lo) (mxEx mx ex) none e) := by
        cases mx with
        | none => exact ⟨cap, rfl, h⟩
        | some v => obtain ⟨n, k1, _, k2⟩ := natW_in h; exact ⟨n, k1, k2⟩
      obtain ⟨m, hm, h1⟩ := h1
      have h2 : ∃ hh, hiB hi mx len m = some hh ∧ natW lo 0 hh fun lo => hh ≤ len ∧ l.length = Nat.mul len e ∧
          k (.vs ((l.drop (Nat.mul lo s)).take (Nat.mul (Nat.sub hh lo) s)) (Nat.sub hh lo) (Nat.sub m lo) (mxEx mx ex) none e) := by
        cases hi with
        | none =>
          cases mx with
          | none => exact ⟨len, rfl, h1⟩
          | some v => cases hhm
        | some v => obtain ⟨n, k1, _, k2⟩ := natW_in h1; exact ⟨n, k1, k2⟩
      obtain ⟨hh, hhh, h2⟩ := h2
      have h3 : ∃ ll, loB lo hh = some ll ∧ ll ≤ hh ∧ hh ≤ len ∧ l.length = Nat.mul len e ∧
          k (.vs ((l.drop (Nat.mul ll s)).take (Nat.mul (Nat.sub hh ll) s)) (Nat.sub hh ll) (Nat.sub m ll) (mxEx mx ex) none e) := by
        cases lo with
        | none => exact ⟨0, rfl, Nat.zero_le _, h2⟩
        | some v => obtain ⟨n, k1, k3, k2⟩ := natW_in h2; exact ⟨n, k1, k3, k2⟩
      obtain ⟨ll, hll, h4, h5, h6, h7⟩ := h3
      refine ⟨_, ?_, h7⟩
      have hb : boundsA len cap lo hi mx = some ⟨ll, hh, m⟩ := by
        rw [boundsA_eq, hm, Option.bind_some, hhh, Option.bind_some, hll]; rfl
      simp only [sliceOpA, hd, ob_eq, hb, hs, Option.bind_some, he, Bool.true_and]
      rw [show Nat.ble hh len = true from ble_t h5, ifb_true, om_eq, sub_of]
      · cases mx <;> rfl
      · show ll * s + (hh - ll) * s ≤ l.length
        rw [h6, ← he', ← Nat.add_mul]
        exact Nat.mul_le_mul_right _ (by omega)
    · exact h.elim
  · exact obW_iff.1 h

theorem newW_sound {st : St} {i : TypeInfo} {z : AV} {zs : Bool} {x : AV} {k : Nat → List AV → Prop} (h : newW st i z zs x k) : ∃ q : Nat × List AV, newCells st i z zs x = some q ∧ k q.1 q.2 := by
  unfold newW at h
  split at h
  · rename_i l n c x w e
    rw [ifp_F, Bool.and_eq_true] at h
    obtain ⟨⟨h1, h2⟩, h3, h4⟩ := h
    cases zs with
    | true => cases h1
    | false =>
      refine ⟨(n, l), ?_, h4⟩
      have e2 : e = i.size := of_beq h2
      simp only [newCells, ifb_false, lenA, ob_eq, om_eq, Option.bind_some, srcCells]
      rw [h2, ifb_true]
      have : sub 0 (Nat.mul n i.size) l = some l := by
        show takeX (Nat.mul n i.size) l = some l
        rw [takeX_some]
        have h3' : l.length = Nat.mul n i.size := by rw [h3, e2]
        exact ⟨by rw [h3']; exact Nat.le_refl _, by rw [List.take_of_length_le (Nat.le_of_eq h3')]⟩
      rw [this]; rfl
  · rw [obW_iff] at h
    obtain ⟨q, h1, h2⟩ := h
    exact ⟨q, h1, h2⟩

theorem appendW_sound {st : St} {sT : TypeId} {xT : Option TypeId} {s x : AV} {k : AV → St → Prop} (h : appendW P st sT xT s x k) : ∃ v st', appendA P st sT xT s x = some (v, st') ∧ k v st' := by
  unfold appendW at h
  rw [obW_iff] at h
  obtain ⟨d, hd, h⟩ := h
  split at h
  · rename_i elem
    simp only [obW_iff] at h
    obtain ⟨i, hi, z, hz, zs, hzs, h⟩ := h
    obtain ⟨q, hq, h⟩ := newW_sound h
    rw [ifp_F] at h
    obtain ⟨hc, h⟩ := h
    unfold ontoW at h
    split at h
    · rcases ifp_iff.1 h with ⟨hvm, h⟩ | ⟨hvm, h⟩
      · rcases ifp_iff.1 h with ⟨h1, h⟩ | ⟨h1, h⟩
        · exact ⟨_, _, by simp only [appendA, hd, ob_eq, hi, hz, hzs, hq, Option.bind_some, hc, ifb_true, h1], h⟩
        · rw [ifp_F] at h
          exact ⟨_, _, by simp only [appendA, hd, ob_eq, hi, hz, hzs, hq, Option.bind_some, hc, ifb_true, h1, ifb_false, h.1, hvm], h.2⟩
      · obtain ⟨p, h1, h2⟩ := h
        exact ⟨p.1, p.2, h1, h2⟩
    · rename_i l len cap ex own e
      rw [ifp_F] at h
      obtain ⟨he, h⟩ := h
      rcases ifp_iff.1 h with ⟨h1, h⟩ | ⟨h1, h⟩
      · exact ⟨_, _, by simp only [appendA, hd, ob_eq, hi, hz, hzs, hq, Option.bind_some, hc, ifb_true, he, h1], h⟩
      · rw [ifp_F] at h
        obtain ⟨h2, h⟩ := h
        split at h
        · rename_i b
          rw [obW_iff] at h
          obtain ⟨u, h3, h⟩ := h
          exact ⟨_, _, by simp only [appendA, hd, ob_eq, hi, hz, hzs, hq, Option.bind_some, hc, ifb_true, he, h1, ifb_false, h2, h3], h⟩
        · rw [ifp_F] at h
          exact ⟨_, _, by simp only [appendA, hd, ob_eq, hi, hz, hzs, hq, Option.bind_some, hc, ifb_true, he, h1, ifb_false, h2, h.1], h.2⟩
    · obtain ⟨p, h1, h2⟩ := h
      exact ⟨p.1, p.2, h1, h2⟩
  · exact h.elim

theorem aopW_sound {T : Tr AV} {st : St} {op : Op} {kv : AV → St → Prop} {kc : FuncId → List AV → Prop} {ky kd : Nat → List AV → Prop} {eqs : Bool} (h : aopW eqs P T st op kv kc ky kd) : Takes (aop P T st op) kv kc ky kd := by
  unfold aopW at h
  split at h
  · rename_i t a
    rw [obW_iff] at h
    obtain ⟨av, h1, h⟩ := h
    obtain ⟨v, h2, h3⟩ := loadW_sound h
    exact ⟨.val v st, by simp only [ob_eq] at h2; simp only [aop, ob_eq, h1, Option.bind_some]; exact h2, h3⟩
  · rename_i op t x y yt
    simp only [obW_iff] at h
    obtain ⟨a, h1, b, h2, h⟩ := h
    rw [ifp_F] at h
    obtain ⟨h3, h⟩ := h
    obtain ⟨v, h4, h5⟩ : ∃ v, binA P op t a b = some v ∧ kv v st := by
      rcases ifp_iff.1 h with ⟨_, h⟩ | ⟨_, h⟩
      · exact binYesW_sound h
      · exact binW_sound h
    exact ⟨.val v st, by simp only [aop, ob_eq, h1, h2, Option.bind_some, h3, ifb_true, h4]; rfl, h5⟩
  · rename_i t x i
    simp only [obW_iff] at h
    obtain ⟨a, h1, b, h2, h⟩ := h
    obtain ⟨v, h4, h5⟩ := indexAddrW_sound h
    exact ⟨.val v st, by simp only [aop, ob_eq, h1, h2, Option.bind_some, h4]; rfl, h5⟩
  · rename_i t x lo hi mx
    simp only [obW_iff] at h
    obtain ⟨a, h1, l, h2, hh, h3, m, h4, h⟩ := h
    obtain ⟨v, h5, h6⟩ := sliceW_sound h
    exact ⟨.val v st, by simp only [aop, ob_eq, h1, h2, h3, h4, Option.bind_some, h5]; rfl, h6⟩
  · rename_i c
    rcases ifp_iff.1 h with ⟨hc, h⟩ | ⟨hc, h⟩
    · obtain ⟨callee, args, at_⟩ := c
      dsimp only at hc h
      unfold isAppend at hc
      split at hc
      · rw [obW_iff] at h
        obtain ⟨as, h1, h⟩ := h
        split at h
        · rename_i s x t r he
          obtain ⟨v, st', h2, h3⟩ := appendW_sound h
          exact ⟨.val v st', by simp only [aop, builtinA, ob_eq, h1, Option.bind_some, arg2]; rw [he]; simp only [h2]; rfl, h3⟩
        · exact h.elim
      · cases hc
    · obtain ⟨r, h1, h2⟩ := obW_iff.1 h
      exact ⟨r, h1, h2⟩
  · obtain ⟨r, h1, h2⟩ := obW_iff.1 h
    exact ⟨r, h1, h2⟩

end Go.Det
