/- Loads and stores: what the abstract heap answers, the model's memory answers. -/
import Derived.Test.YtenpjnfbpkidoaaGreatDoorDvHeap
import Derived.Laws.Cells
set_option linter.unusedVariables false
set_option linter.unusedSimpArgs false
namespace Go.Det
variable {P : Program} {ρ : Names}

theorem ofVal_sound (ρ : Names) : ∀ (d : Nat) (v : Value) (a : AV), ofVal d v = some a → VR ρ a v := by
  intro d
  induction d with
  | zero =>
    intro v a h
    unfold ofVal at h
    split at h <;> first | (injection h with h; subst h; constructor) | (cases h) | (simp at *)
  | succ d ih =>
    have lists : ∀ (l : List Value) (as : List AV), ofVals (ofVal d) l = some as → VRs ρ as l := by
      intro l
      induction l with
      | nil => intro as h; simp only [ofVals] at h; injection h with h; subst h; exact .nil
      | cons v l ihl =>
        intro as h
        simp only [ofVals, ob_some, om_some] at h
        obtain ⟨a, h1, r, h2, rfl⟩ := h
        exact .cons (ih _ _ h1) (ihl _ h2)
    intro v a h
    unfold ofVal at h
    split at h <;> first
      | (injection h with h; subst h; constructor; done)
      | (cases h; done)
      | skip
    all_goals
      rename_i d' cs e
      simp only [om_some] at h
      obtain ⟨r, h1, rfl⟩ := h
      obtain rfl : d' = d := by omega
      have := lists _ _ h1
    · exact VR.agg (a' := cs.toList) this
    · exact VR.tuple (a' := cs.toList) this

/-! Types. -/
theorem szT_some {t n : Nat} : szT P t = some n ↔ ∃ i, P.info? t = some i ∧ i.size = n := by rw [szT, om_some]
theorem run_typeInfo' {t : TypeId} {i : TypeInfo} (h : P.info? t = some i) (w : World) : (typeInfo t).run P w = .ok i w := by simp [typeInfo, h]
theorem run_sizeOf' {t n : Nat} (h : szT P t = some n) (w : World) : (sizeOf t).run P w = .ok n w := by
  obtain ⟨i, hi, rfl⟩ := szT_some.1 h
  simp [sizeOf, run_typeInfo' hi]
theorem run_underlying' {t : TypeId} {d : TypeDesc} (h : P.underlying t = some d) (w : World) : (underlying t).run P w = .ok d w := by simp [underlying, h]
theorem run_isAgg' {t : TypeId} {b : Bool} (h : aggT P t = some b) (w : World) : (isAgg t).run P w = .ok b w := by
  unfold aggT at h
  unfold isAgg
  cases hu : P.underlying t with
  | none => rw [hu] at h; cases h
  | some d =>
    rw [hu] at h
    simp only [Sem.run_bind, run_underlying' hu, Result.andThen_ok]
    cases d <;> simp at h <;> subst h <;> rfl
theorem run_zeroValue' {t : TypeId} {a : AV} (h : zeroT P t = some a) (w : World) : ∃ z, (zeroValue t).run P w = .ok z w ∧ VR ρ a z := by
  simp only [zeroT, ob_some] at h
  obtain ⟨i, h1, z, h2, h3⟩ := h
  exact ⟨z, by simp [zeroValue, run_typeInfo' h1, h2], ofVal_sound ρ _ _ _ h3⟩

theorem part_sound {t off : Nat} {cs : List AV} {cs' : List Value} {v : AV} (h : partA P t cs off = some v) (hc : VRs ρ cs cs') (w : World) :
    ∃ v', (part t ⟨cs'⟩ off).run P w = .ok v' w ∧ VR ρ v v' := by
  simp only [partA, ob_some] at h
  obtain ⟨a, h1, h⟩ := h
  unfold part
  simp only [Sem.run_bind, run_isAgg' h1, Result.andThen_ok]
  cases a with
  | true =>
    simp only [ifb_true, ob_some, om_some] at h
    obtain ⟨n, h2, l, h3, rfl⟩ := h
    obtain ⟨h4, h5, h6⟩ := sub_some h3
    refine ⟨.agg ⟨(cs'.drop off).take n⟩, ?_, .agg (h5 ▸ (hc.drop off).take n)⟩
    simp only [if_true, Sem.run_bind, run_sizeOf' h2, Result.andThen_ok, Sem.run_pure]
    congr 2
    apply Array.ext'
    simp [List.extract_eq_take_drop]
  | false =>
    simp only [ifb_false, nth_eq] at h
    obtain ⟨v', h2, h3⟩ := hc.get h
    refine ⟨v', ?_, h3⟩
    simp [h2]

/-! Rows. -/
theorem rowOf_some {st : St} {b : Nat} {r : List AV × TypeId} : rowOf st b = some r ↔ st.heap.get b = some (.row r.1 r.2) := by
  unfold rowOf
  rw [ob_some]
  constructor
  · rintro ⟨o, h, h'⟩
    cases o <;> simp at h'
    subst h'; exact h
  · intro h; exact ⟨_, h, rfl⟩

theorem cell_at {w : World} {L : Loc} {cs : List AV} (h : RowAt ρ L cs w.heap[L.blk]?) {i : Nat} {v : AV} (hi : cs[i]? = some v) :
    ∃ v', w.cell? ⟨L.blk, L.off + i, none⟩ = some v' ∧ VR ρ v v' := by
  obtain ⟨arr, e, lo, hi', h1, h2, h3, h4, h5⟩ := h
  obtain ⟨_, v', h6, h7⟩ := h5 i v hi
  exact ⟨v', by simp [World.cell?, h1, h6], h7⟩
theorem addr_add (b o n : Nat) : (⟨b, o, none⟩ : Addr).add n = ⟨b, o + n, none⟩ := by unfold Addr.add; split <;> simp_all

/-- The cells from a place on, as the model loads them. -/
theorem loadCells_at {w : World} {blk off : Nat} {cs : List AV} (h : ∀ i v, cs[i]? = some v → ∃ v', w.cell? ⟨blk, off + i, none⟩ = some v' ∧ VR ρ v v') {o n : Nat} {l : List AV} (hs : sub o n cs = some l) :
    ∃ l', (∀ m : Nat, (loadCells ⟨blk, off + o, none⟩ n).run P { w with drawn := m } = .ok ⟨l'⟩ { w with drawn := m }) ∧ VRs ρ l l' := by
  obtain ⟨h1, h2, h3⟩ := sub_some hs
  have hget : ∀ j v, l[j]? = some v → cs[o + j]? = some v := by
    intro j v hv
    rw [h2] at hv
    have hj : j < n := by
      rcases Nat.lt_or_ge j n with h | h
      · exact h
      · rw [List.getElem?_eq_none (by simp; omega)] at hv; cases hv
    rw [List.getElem?_take_of_lt hj, List.getElem?_drop] at hv
    exact hv
  have hall : ∀ (m : Nat), m ≤ l.length → ∃ l' : List Value, l'.length = m ∧ ∀ j, j < m → ∀ v, l[j]? = some v → ∃ v', l'[j]? = some v' ∧ VR ρ v v' ∧ w.cell? ⟨blk, off + o + j, none⟩ = some v' := by
    intro m
    induction m with
    | zero => intro _; exact ⟨[], rfl, fun j hj => absurd hj (by omega)⟩
    | succ m ih =>
      intro hm
      obtain ⟨l', hl, H⟩ := ih (by omega)
      obtain ⟨v', hv, hr⟩ := h _ _ (hget m _ (List.getElem?_eq_getElem (by omega)))
      refine ⟨l' ++ [v'], by simp [hl], fun j hj v hjv => ?_⟩
      by_cases e : j = m
      · subst e
        rw [List.getElem?_eq_getElem (by omega)] at hjv
        injection hjv with hjv; subst hjv
        exact ⟨v', by simp [← hl], hr, by rw [Nat.add_assoc]; exact hv⟩
      · obtain ⟨u, a, b, c⟩ := H j (by omega) v hjv
        exact ⟨u, by rw [List.getElem?_append_left (by omega)]; exact a, b, c⟩
  obtain ⟨l', hl, H⟩ := hall l.length (Nat.le_refl _)
  refine ⟨l', fun m => ?_, VRs.of_get hl fun j v hv => ?_⟩
  · have := run_loadCells_list (P := P) { w with drawn := m } ⟨blk, off + o, none⟩ l' fun j v hv => by
      have hj : j < l'.length := by
        rcases Nat.lt_or_ge j l'.length with h | h
        · exact h
        · rw [List.getElem?_eq_none h] at hv; cases hv
      obtain ⟨u, a, _, c⟩ := H j (by omega) _ (List.getElem?_eq_getElem (by omega))
      rw [a] at hv; injection hv with hv; subst hv
      rw [addr_add]; exact c
    rw [hl, h3] at this
    exact this
  · have hj : j < l.length := by
      rcases Nat.lt_or_ge j l.length with h | h
      · exact h
      · rw [List.getElem?_eq_none h] at hv; cases hv
    obtain ⟨u, a, b, _⟩ := H j hj v hv
    exact ⟨u, a, b⟩

theorem loadCells_all {w : World} {L : Loc} {cs : List AV} (h : RowAt ρ L cs w.heap[L.blk]?) {o n : Nat} {l : List AV} (hs : sub o n cs = some l) :
    ∃ l', (∀ m : Nat, (loadCells ⟨L.blk, L.off + o, none⟩ n).run P { w with drawn := m } = .ok ⟨l'⟩ { w with drawn := m }) ∧ VRs ρ l l' :=
  loadCells_at (fun _ _ hv => cell_at h hv) hs
/-- Known memory. -/
theorem mem_at {st : St} {w : World} (hH : HR ρ st w) {blk off : Nat} {l : List AV} {l' : List Value} (h : VRs ρ l l') (hm : ∀ i v', l'[i]? = some v' → ρ.mem blk (off + i) = some v') :
    ∀ i v, l[i]? = some v → ∃ v', w.cell? ⟨blk, off + i, none⟩ = some v' ∧ VR ρ v v' := fun i v hv =>
  let ⟨v', h1, h2⟩ := h.get hv
  ⟨v', hH.mem _ _ _ (hm _ _ h1), h2⟩
theorem loadPart_sound {st : St} {w : World} (hH : HR ρ st w) {t o : Nat} {l : List AV} {l' : List Value} {v : AV} (h2 : partA P t l o = some v) {blk off : Nat} (h : VRs ρ l l')
    (hm : ∀ i v', l'[i]? = some v' → ρ.mem blk (off + i) = some v') : ∃ v', (loadVar t ⟨blk, off + o, none⟩).run P w = .ok v' w ∧ VR ρ v v' := by
  have hat := mem_at hH h hm
  simp only [partA, ob_some] at h2
  obtain ⟨a, h3, h2⟩ := h2
  unfold loadVar
  simp only [Sem.run_bind, run_isAgg' h3, Result.andThen_ok]
  cases a with
  | true =>
    simp only [ifb_true, ob_some, om_some] at h2
    obtain ⟨n, h4, l1, h5, rfl⟩ := h2
    obtain ⟨l', h6, h7⟩ := loadCells_at (P := P) hat h5
    exact ⟨.agg ⟨l'⟩, by simp [run_sizeOf' h4, h6 w.drawn], .agg h7⟩
  | false =>
    simp only [ifb_false, nth_eq] at h2
    obtain ⟨v', h6, h7⟩ := hat _ _ h2
    exact ⟨v', by simp [h6], h7⟩

theorem loadGlob_sound {st : St} {w : World} (hH : HR ρ st w) {t g o : Nat} {v : AV} (h : (ob (st.gl.get g) fun l => partA P t l o) = some v) : ∃ v', (loadVar t ⟨g, o, none⟩).run P w = .ok v' w ∧ VR ρ v v' := by
  rw [ob_some] at h
  obtain ⟨l, h1, h2⟩ := h
  obtain ⟨l', k1, k2⟩ := hH.glob _ _ h1
  have := loadPart_sound (P := P) hH h2 (blk := g) (off := 0) k1 (fun i v' hv => by rw [Nat.zero_add]; exact k2 i v' hv)
  rwa [Nat.zero_add] at this

theorem loadCells_sound {w : World} {L : Loc} {cs : List AV} (h : RowAt ρ L cs w.heap[L.blk]?) {o n : Nat} {l : List AV} (hs : sub o n cs = some l) :
    ∃ l', (loadCells ⟨L.blk, L.off + o, none⟩ n).run P w = .ok ⟨l'⟩ w ∧ VRs ρ l l' :=
  let ⟨l', h1, h2⟩ := loadCells_all (P := P) h hs
  ⟨l', h1 w.drawn, h2⟩

theorem load_sound {st : St} {w : World} (hH : HR ρ st w) {t b o : Nat} {v : AV} (h : loadA P st t b o = some v) {L : Loc} (hL : ρ b = some L) :
    ∃ v', (loadVar t ⟨L.blk, L.off + o, none⟩).run P w = .ok v' w ∧ VR ρ v v' := by
  simp only [loadA, ob_some] at h
  obtain ⟨r, h1, h2⟩ := h
  obtain ⟨L', hL', hO⟩ := hH.obj _ _ (rowOf_some.1 h1)
  obtain rfl : L' = L := by rw [hL] at hL'; injection hL' with h; exact h.symm
  simp only [partA, ob_some] at h2
  obtain ⟨a, h3, h2⟩ := h2
  unfold loadVar
  simp only [Sem.run_bind, run_isAgg' h3, Result.andThen_ok]
  cases a with
  | true =>
    simp only [ifb_true, ob_some, om_some] at h2
    obtain ⟨n, h4, l, h5, rfl⟩ := h2
    obtain ⟨l', h6, h7⟩ := loadCells_sound (P := P) hO h5
    exact ⟨.agg ⟨l'⟩, by simp [run_sizeOf' h4, h6], .agg h7⟩
  | false =>
    simp only [ifb_false, nth_eq] at h2
    obtain ⟨v', h6, h7⟩ := cell_at hO h2
    exact ⟨v', by simp [h6], h7⟩

/-! Stores. -/
theorem storeCells_run {blk o : Nat} {e : TypeId} {lo hi : Nat} : ∀ (vs : List Value) (i : Nat) (arr : Array Value) (w : World), w.heap[blk]? = some (.cells arr e (lo, hi)) →
    o + i + vs.length ≤ arr.size → (∀ k, k < arr.size → ¬ (lo ≤ k ∧ k < hi)) → (∀ v ∈ vs, v.oneCell' = true) →
    ∃ arr', arr'.size = arr.size ∧ (∀ k, arr'[k]? = if o + i ≤ k ∧ k < o + i + vs.length then vs[k - (o + i)]? else arr[k]?) ∧
      (storeCells ⟨blk, o, none⟩ vs i).run P w = .ok () { w with heap := w.heap.setIfInBounds blk (.cells arr' e (lo, hi)) } := by
  intro vs
  induction vs with
  | nil =>
    intro i arr w hg hl hf h1
    refine ⟨arr, rfl, fun k => by rw [if_neg (by simp only [List.length_nil]; omega)], ?_⟩
    have : w.heap.setIfInBounds blk (.cells arr e (lo, hi)) = w.heap := by
      apply Array.ext_getElem?
      intro k
      rw [Array.getElem?_setIfInBounds]
      by_cases hk : blk = k
      · subst hk
        by_cases hb : blk < w.heap.size
        · rw [if_pos rfl, if_pos hb, hg]
        · simp [hb]
      · simp [hk]
    simp only [storeCells, Sem.run_pure, this]
  | cons v rest ih =>
    intro i arr w hg hl hf h1
    simp only [List.length_cons] at hl
    have hi' : o + i < arr.size := by omega
    have hb : blk < w.heap.size := by
      rcases Nat.lt_or_ge blk w.heap.size with h | h
      · exact h
      · rw [Array.getElem?_eq_none h] at hg; cases hg
    have hcell : w.cell? ⟨blk, o + i, none⟩ = some arr[o + i] := by simp [World.cell?, hg, hi']
    have hfro : w.frozen? ⟨blk, o + i, none⟩ = false := by
      simp only [World.frozen?, hg]
      have := hf (o + i) hi'
      simp only [Bool.and_eq_false_iff, decide_eq_false_iff_not]
      omega
    have hset : w.setCell ⟨blk, o + i, none⟩ v = { w with heap := w.heap.setIfInBounds blk (.cells (arr.setIfInBounds (o + i) v) e (lo, hi)) } := by
      unfold World.setCell
      congr 1
      apply Array.ext_getElem?
      intro k
      rw [Array.getElem?_modify, Array.getElem?_setIfInBounds]
      by_cases hk : blk = k
      · subst hk; simp only [if_true, hg, hb]; rfl
      · simp [hk]
    have hst : (store ((⟨blk, o, none⟩ : Addr).add i) v).run P w = .ok () { w with heap := w.heap.setIfInBounds blk (.cells (arr.setIfInBounds (o + i) v) e (lo, hi)) } := by
      rw [addr_add, run_store P w _ v _ (h1 v (by simp)), hcell]
      simp [hfro, hset]
    obtain ⟨arr', k1, k2, k3⟩ := ih (i + 1) (arr.setIfInBounds (o + i) v) { w with heap := w.heap.setIfInBounds blk (.cells (arr.setIfInBounds (o + i) v) e (lo, hi)) }
      (by simp [hb]) (by simp; omega) (by simpa using hf) (fun x hx => h1 x (by simp [hx]))
    refine ⟨arr', by simpa using k1, fun k => ?_, ?_⟩
    · rw [k2]
      simp only [List.length_cons]
      by_cases c1 : o + (i + 1) ≤ k ∧ k < o + (i + 1) + rest.length
      · rw [if_pos c1, if_pos (by omega), show k - (o + i) = (k - (o + (i + 1))) + 1 by omega, List.getElem?_cons_succ]
      · rw [if_neg c1, Array.getElem?_setIfInBounds]
        by_cases c2 : o + i = k
        · subst c2
          rw [if_pos rfl, if_pos hi', if_pos (by omega)]; simp
        · rw [if_neg c2, if_neg (by omega)]
    · simp only [storeCells, Sem.run_bind, hst, Result.andThen_ok, k3]
      congr 2
      apply Array.ext_getElem?
      intro k
      simp only [Array.getElem?_setIfInBounds]
      by_cases hk : blk = k
      · subst hk; simp [hb]
      · simp [hk]

theorem storeCells_sound {st st' : St} {w : World} (hH : HR ρ st w) {b o : Nat} {l : List AV} (h : storeCellsA st b o l = some st') {L : Loc} (hL : ρ b = some L) {l' : List Value} (hl : VRs ρ l l') :
    ∃ w', (storeCells ⟨L.blk, L.off + o, none⟩ l').run P w = .ok () w' ∧ HR ρ st' w' ∧ Goes ρ st w ρ st' w' := by
  simp only [storeCellsA, ob_some, ifb_none, om_some] at h
  obtain ⟨r, h1, hs, cs, h2, rfl⟩ := h
  have h0 := rowOf_some.1 h1
  obtain ⟨L', hL', hO⟩ := hH.obj _ _ h0
  obtain rfl : L' = L := by rw [hL] at hL'; injection hL' with h; exact h.symm
  obtain ⟨arr, e, lo, hi, k1, k2, k3, k4, k5⟩ := hO
  have hlen := (overAt_some h2).1
  obtain ⟨arr', a1, a2, a3⟩ := storeCells_run (P := P) (o := L'.off + o) l' 0 arr w k1 (by rw [hl.length]; omega) (by rw [k2]; exact k4)
    (fun v' hv' => by
      obtain ⟨j, hj, rfl⟩ := List.getElem_of_mem hv'
      have hj' : j < l.length := by rw [← hl.length]; exact hj
      obtain ⟨u, hu, hr⟩ := hl.get (List.getElem?_eq_getElem hj')
      rw [List.getElem?_eq_getElem hj] at hu
      injection hu with hu
      exact hu ▸ hr.oneCell (allScalar_iff.1 hs _ (List.getElem_mem hj')))
  refine ⟨_, a3, hH.put h0 hL (.row cs r.2) _ ⟨arr', e, lo, hi, rfl, by rw [a1, k2], by rw [overAt_length h2]; exact k3, k4, ?_⟩ _ rfl⟩
  intro i v hv
  rw [overAt_get h2] at hv
  rw [a2, hl.length]
  by_cases c : o ≤ i ∧ i < o + l.length
  · rw [if_pos c] at hv
    refine ⟨allScalar_iff.1 hs _ (List.mem_of_getElem? hv), ?_⟩
    rw [if_pos (by omega), show L'.off + i - (L'.off + o + 0) = i - o by omega]
    exact hl.get hv
  · rw [if_neg c] at hv
    rw [if_neg (by omega)]
    exact k5 i v hv

theorem storeVar_sound {st st' : St} {w : World} (hH : HR ρ st w) {t b o : Nat} {v : AV} (h : storeA P st t b o v = some st') {L : Loc} (hL : ρ b = some L) {v' : Value} (hv : VR ρ v v') :
    ∃ w', (storeVar t ⟨L.blk, L.off + o, none⟩ v').run P w = .ok () w' ∧ HR ρ st' w' ∧ Goes ρ st w ρ st' w' := by
  simp only [storeA, ob_some, ifb_none] at h
  obtain ⟨n, h1, h2, h3⟩ := h
  have hc := hv.cells
  obtain ⟨w', k1, k2, k3⟩ := storeCells_sound (P := P) hH h3 hL hc
  refine ⟨w', ?_, k2, k3⟩
  have hs : v'.cells.size = n := by have := hc.length; rw [Array.length_toList] at this; rw [this]; exact of_beq h2
  simp [storeVar, run_sizeOf' h1, hs, k1]

/-! New blocks. -/
theorem rowAt_new (ρ : Names) {cs : List AV} {arr : Array Value} {e : TypeId} (h : VRs ρ cs arr.toList) (hs : allScalar cs = true) (b : Nat) :
    RowAt ρ ⟨b, 0, arr.size⟩ cs (some (.cells arr e)) := by
  refine ⟨arr, e, 0, 0, rfl, rfl, ?_, fun i _ h => by omega, fun i v hv => ⟨allScalar_iff.1 hs _ (List.mem_of_getElem? hv), ?_⟩⟩
  · have := h.length; simp at this; simp [this]
  · obtain ⟨v', h1, h2⟩ := h.get hv
    exact ⟨v', by simpa using h1, h2⟩

theorem newRow_sound {st : St} {w : World} (hH : HR ρ st w) {cs : List AV} {arr : Array Value} (e e' : TypeId) (h : VRs ρ cs arr.toList) (hs : allScalar cs = true) :
    ∃ ρ' w', (newRow e arr).run P w = .ok ⟨w.heap.size, 0, none⟩ w' ∧ HR ρ' (st.new (.row cs e')) w' ∧ Goes ρ st w ρ' (st.new (.row cs e')) w' ∧ ρ' st.next = some ⟨w.heap.size, 0, arr.size⟩ := by
  have hle := Names.set_le ⟨w.heap.size, 0, arr.size⟩ hH.fresh
  obtain ⟨h1, h2⟩ := hH.new (.row cs e') ⟨w.heap.size, 0, arr.size⟩ (.cells arr e) rfl (rowAt_new _ (h.mono hle) hs _)
  exact ⟨_, _, by simp [newRow, worldNew], h1, h2, Names.set_same _ _ _⟩

end Go.Det
