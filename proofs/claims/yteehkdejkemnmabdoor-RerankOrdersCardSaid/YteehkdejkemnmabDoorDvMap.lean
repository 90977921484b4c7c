/- Maps of which the contents are known by a list: keys, values, their births. -/
import Derived.Test.YteehkdejkemnmabDoorDvSpec
set_option linter.unusedVariables false
set_option linter.unusedSimpArgs false
noncomputable section
namespace Go.Det

/-- How keys are told. -/
structure KEnc (κ : Type) where
  f : κ → AV
  free : ∀ a, AV.free (f a) = true
  same : ∀ a b, ∃ r : Bool, sameKey (f a) (f b) = some r ∧ (r = true ↔ a = b)
/-- How values are told. -/
structure VEnc (β : Type) where
  f : β → AV
  free : ∀ a, AV.free (f a) = true

structure Mp (κ β : Type) where
  es : List (κ × β × Nat)
  clock : Nat
  keys : (es.map (·.1)).Nodup
  born : (es.map (·.2.2)).Nodup
  young : ∀ e ∈ es, e.2.2 < clock
namespace Mp
variable {κ β : Type}
def enc (KE : KEnc κ) (VE : VEnc β) (m : Mp κ β) : List AEntry := m.es.map fun e => ⟨KE.f e.1, VE.f e.2.1, e.2.2⟩
def empty : Mp κ β := ⟨[], 0, List.Pairwise.nil, List.Pairwise.nil, fun e h => by cases h⟩
open Classical in
def findL (k : κ) : List (κ × β × Nat) → Option β
  | [] => none
  | e :: es => if k = e.1 then some e.2.1 else findL k es
open Classical in
def idxL (k : κ) : List (κ × β × Nat) → Nat
  | [] => 0
  | e :: es => if k = e.1 then 0 else idxL k es + 1
def find (m : Mp κ β) (k : κ) : Option β := findL k m.es
def size (m : Mp κ β) : Nat := m.es.length

theorem findA_enc {KE : KEnc κ} {VE : VEnc β} (k : κ) : ∀ (es : List (κ × β × Nat)) (i : Nat), findA (KE.f k) (es.map fun e => ⟨KE.f e.1, VE.f e.2.1, e.2.2⟩) i = some ((findL k es).map fun v => (i + idxL k es, VE.f v))
  | [], i => rfl
  | e :: es, i => by
    obtain ⟨r, h1, h2⟩ := KE.same k e.1
    simp only [List.map_cons, findA, h1, ob_eq, Option.bind_some, findL, idxL]
    cases r with
    | true =>
      have := h2.1 rfl
      rw [ifb_true, if_pos this, if_pos this]; rfl
    | false =>
      have : ¬ k = e.1 := fun h => by have := h2.2 h; cases this
      rw [ifb_false, if_neg this, if_neg this, findA_enc k es, Nat.succ_eq_add_one]
      cases findL k es with
      | none => rfl
      | some v => simp only [Option.map_some]; rw [show i + 1 + idxL k es = i + (idxL k es + 1) by omega]
theorem find_none {k : κ} : ∀ {es : List (κ × β × Nat)}, findL k es = none ↔ k ∉ es.map (·.1)
  | [] => by simp [findL]
  | e :: es => by
    simp only [findL, List.map_cons, List.mem_cons, not_or]
    split
    · rename_i h; simp [h]
    · rename_i h; rw [find_none]; simp [h]
theorem idx_lt {k : κ} : ∀ {es : List (κ × β × Nat)} {v : β}, findL k es = some v → idxL k es < es.length
  | [], v, h => by simp [findL] at h
  | e :: es, v, h => by
    simp only [findL] at h
    simp only [idxL]
    split at h
    · rename_i c; rw [if_pos c]; simp
    · rename_i c; rw [if_neg c]; have := idx_lt h; simp; omega
theorem idx_get {k : κ} : ∀ {es : List (κ × β × Nat)} {v : β}, findL k es = some v → ∃ n, es[idxL k es]? = some (k, v, n)
  | [], v, h => by simp [findL] at h
  | e :: es, v, h => by
    simp only [findL] at h
    simp only [idxL]
    split at h
    · rename_i c
      injection h with h
      rw [if_pos c]
      refine ⟨e.2.2, ?_⟩
      simp only [List.getElem?_cons_zero]
      obtain ⟨a, b, n⟩ := e
      simp only at c h ⊢
      rw [c, h]
    · rename_i c
      rw [if_neg c]
      simpa using idx_get h

/-- The value at k is v. -/
def setL (i : Nat) (v : β) (es : List (κ × β × Nat)) : List (κ × β × Nat) := es.modify i fun e => (e.1, v, e.2.2)
theorem setL_map1 (i : Nat) (v : β) (es : List (κ × β × Nat)) : (setL i v es).map (·.1) = es.map (·.1) := by
  apply List.ext_getElem?
  intro j
  simp only [setL, List.getElem?_map, List.getElem?_modify]
  by_cases c : i = j
  · subst c; cases es[i]? <;> simp
  · simp [c]
theorem setL_map2 (i : Nat) (v : β) (es : List (κ × β × Nat)) : (setL i v es).map (·.2.2) = es.map (·.2.2) := by
  apply List.ext_getElem?
  intro j
  simp only [setL, List.getElem?_map, List.getElem?_modify]
  by_cases c : i = j
  · subst c; cases es[i]? <;> simp
  · simp [c]
theorem setL_enc {KE : KEnc κ} {VE : VEnc β} (v : β) : ∀ (i : Nat) (es : List (κ × β × Nat)), (setL i v es).map (fun e => (⟨KE.f e.1, VE.f e.2.1, e.2.2⟩ : AEntry)) = setEntry (VE.f v) i (es.map fun e => ⟨KE.f e.1, VE.f e.2.1, e.2.2⟩)
  | i, [] => by cases i <;> rfl
  | 0, e :: es => by simp [setL, setEntry]
  | i + 1, e :: es => by
    have := setL_enc (KE := KE) (VE := VE) v i es
    simp only [setL] at this
    simp [setL, setEntry, this]
theorem setL_find {k : κ} {v w : β} : ∀ {es : List (κ × β × Nat)} {k' : κ}, findL k es = some w → findL k' (setL (idxL k es) v es) = open Classical in if k' = k then some v else findL k' es
  | [], k', h => by simp [findL] at h
  | e :: es, k', h => by
    classical
    simp only [findL] at h
    simp only [idxL]
    split at h
    · rename_i c
      rw [if_pos c]
      simp only [setL, List.modify_zero_cons, findL]
      by_cases d : k' = e.1
      · rw [if_pos d, if_pos (by rw [d, c])]
      · rw [if_neg d, if_neg (by rw [c]; exact d), if_neg d]
    · rename_i c
      rw [if_neg c]
      have ih := setL_find (v := v) (k' := k') h
      simp only [setL] at ih
      simp only [setL, List.modify_succ_cons, findL, ih]
      by_cases d : k' = e.1
      · rw [if_pos d, if_neg (by rw [d]; exact fun q => c q.symm), if_pos d]
      · rw [if_neg d, if_neg d]
theorem findL_app {k : κ} : ∀ {es es' : List (κ × β × Nat)}, findL k (es ++ es') = (findL k es).orElse fun _ => findL k es'
  | [], es' => by simp [findL]
  | e :: es, es' => by
    simp only [List.cons_append, findL]
    split
    · rfl
    · exact findL_app
def upd (m : Mp κ β) (k : κ) (v : β) : Mp κ β :=
  match h : m.find k with
  | some _ => ⟨setL (idxL k m.es) v m.es, m.clock, by rw [setL_map1]; exact m.keys, by rw [setL_map2]; exact m.born, fun e he => by
      have : e.2.2 ∈ (setL (idxL k m.es) v m.es).map (·.2.2) := List.mem_map.2 ⟨e, he, rfl⟩
      rw [setL_map2] at this
      obtain ⟨e', h1, h2⟩ := List.mem_map.1 this
      rw [← h2]; exact m.young e' h1⟩
  | none => ⟨m.es ++ [(k, v, m.clock)], m.clock + 1, by
      rw [List.map_append, List.nodup_append]
      refine ⟨m.keys, by simp, fun a ha b hb => ?_⟩
      simp at hb; subst hb
      have := find_none.1 h
      exact fun e => this (e ▸ ha), by
      rw [List.map_append, List.nodup_append]
      refine ⟨m.born, by simp, fun a ha b hb => ?_⟩
      simp at hb; subst hb
      obtain ⟨e, h1, h2⟩ := List.mem_map.1 ha
      have := m.young e h1
      omega, fun e he => by
      rcases List.mem_append.1 he with he | he
      · have := m.young e he; omega
      · simp at he; subst he; simp⟩
open Classical in
theorem upd_find (m : Mp κ β) (k k' : κ) (v : β) : (m.upd k v).find k' = if k' = k then some v else m.find k' := by
  unfold upd
  split
  · rename_i w h; exact setL_find h
  · rename_i h
    show findL k' (m.es ++ [(k, v, m.clock)]) = _
    rw [findL_app]
    by_cases c : k' = k
    · subst c
      rw [if_pos rfl, show findL k' m.es = none from h]; simp [findL]
    · rw [if_neg c]
      show _ = findL k' m.es
      cases findL k' m.es with
      | none => simp [findL, c]
      | some w => rfl
theorem upd_same (m : Mp κ β) (k : κ) (v : β) : (m.upd k v).find k = some v := by rw [upd_find, if_pos rfl]
theorem upd_other (m : Mp κ β) {k k' : κ} (v : β) (h : k' ≠ k) : (m.upd k v).find k' = m.find k' := by rw [upd_find, if_neg h]
theorem upd_size (m : Mp κ β) (k : κ) (v : β) : (m.upd k v).size = if (m.find k).isSome then m.size else m.size + 1 := by
  have e : ∀ o, m.find k = o → (m.upd k v).size = if o.isSome then m.size else m.size + 1 := by
    intro o ho
    unfold upd
    split
    · rename_i w h; rw [h] at ho; subst ho; simp [size, setL]
    · rename_i h; rw [h] at ho; subst ho; simp [size]
  exact e _ rfl
theorem empty_find (k : κ) : (empty : Mp κ β).find k = none := rfl
theorem empty_size : (empty : Mp κ β).size = 0 := rfl
variable {KE : KEnc κ} {VE : VEnc β}
theorem look (m : Mp κ β) (k : κ) (z : AV) : lookIs (KE.f k) (m.enc KE VE) z (match m.find k with | some v => VE.f v | none => z) (m.find k).isSome := by
  refine ⟨_, findA_enc k m.es 0, ?_, ?_⟩
  · show optV z ((findL k m.es).map _) = (match findL k m.es with | some v => VE.f v | none => z)
    cases findL k m.es <;> rfl
  · show ((findL k m.es).map _).isSome = (findL k m.es).isSome
    cases findL k m.es <;> rfl
theorem look_some {m : Mp κ β} {k : κ} {v : β} (h : m.find k = some v) (z : AV) : lookIs (KE.f k) (m.enc KE VE) z (VE.f v) true := by
  have := m.look (KE := KE) (VE := VE) k z; rw [h] at this; exact this
theorem look_none {m : Mp κ β} {k : κ} (h : m.find k = none) (z : AV) : lookIs (KE.f k) (m.enc KE VE) z z false := by
  have := m.look (KE := KE) (VE := VE) k z; rw [h] at this; exact this
theorem upd_es_some {m : Mp κ β} {k : κ} {w : β} (h : m.find k = some w) (v : β) : (m.upd k v).es = setL (idxL k m.es) v m.es := by
  unfold upd; split
  · rfl
  · rename_i q; rw [h] at q; cases q
theorem upd_clock_some {m : Mp κ β} {k : κ} {w : β} (h : m.find k = some w) (v : β) : (m.upd k v).clock = m.clock := by
  unfold upd; split
  · rfl
  · rename_i q; rw [h] at q; cases q
theorem upd_es_none {m : Mp κ β} {k : κ} (h : m.find k = none) (v : β) : (m.upd k v).es = m.es ++ [(k, v, m.clock)] := by
  unfold upd; split
  · rename_i q; rw [h] at q; cases q
  · rfl
theorem upd_clock_none {m : Mp κ β} {k : κ} (h : m.find k = none) (v : β) : (m.upd k v).clock = m.clock + 1 := by
  unfold upd; split
  · rename_i q; rw [h] at q; cases q
  · rfl
theorem upd_is (m : Mp κ β) (k : κ) (v : β) : updIs (KE.f k) (VE.f v) (m.enc KE VE) m.clock ((m.upd k v).enc KE VE) (m.upd k v).clock := by
  refine ⟨_, findA_enc k m.es 0, ?_⟩
  cases h : m.find k with
  | some w =>
    rw [show findL k m.es = some w from h]
    refine ⟨?_, upd_clock_some h v⟩
    show (m.upd k v).es.map _ = setEntry (VE.f v) (0 + idxL k m.es) _
    rw [upd_es_some h, setL_enc, Nat.zero_add]; rfl
  | none =>
    rw [show findL k m.es = none from h]
    refine ⟨?_, upd_clock_none h v⟩
    show (m.upd k v).es.map _ = _
    rw [upd_es_none h, List.map_append]; rfl
/-- When the key's entry was born. -/
def bornAt (m : Mp κ β) (k : κ) : Nat := match m.es[idxL k m.es]? with | some e => e.2.2 | none => 0
/-- With an entry for k. -/
def ent (m : Mp κ β) (k : κ) (z : β) : Mp κ β := match m.find k with | some _ => m | none => m.upd k z
theorem ent_is (m : Mp κ β) (k : κ) (z : β) : entIs (KE.f k) (m.enc KE VE) m.clock (VE.f z) (VE.f ((m.find k).getD z)) ((m.ent k z).bornAt k) ((m.ent k z).enc KE VE) (m.ent k z).clock := by
  refine ⟨_, findA_enc k m.es 0, ?_⟩
  unfold ent
  cases h : m.find k with
  | some w =>
    rw [show findL k m.es = some w from h]
    obtain ⟨n, hn⟩ := idx_get h
    refine ⟨rfl, ⟨⟨KE.f k, VE.f w, n⟩, ?_, ?_⟩, rfl, rfl⟩
    · rw [nth_eq]
      show (m.es.map _)[0 + idxL k m.es]? = _
      rw [Nat.zero_add, List.getElem?_map, hn]; rfl
    · show bornAt m k = n
      unfold bornAt; rw [hn]
  | none =>
    rw [show findL k m.es = none from h]
    have he : (m.upd k z).es = m.es ++ [(k, z, m.clock)] := by unfold upd; split; · rename_i w q; rw [h] at q; cases q
                                                               · rfl
    have hc : (m.upd k z).clock = m.clock + 1 := by unfold upd; split; · rename_i w q; rw [h] at q; cases q
                                                    · rfl
    refine ⟨rfl, ?_, ?_, hc⟩
    · show bornAt (m.upd k z) k = m.clock
      obtain ⟨n, hn⟩ := idx_get (es := (m.upd k z).es) (show findL k (m.upd k z).es = some z from upd_same m k z)
      unfold bornAt; rw [hn]
      have hmem : (k, z, n) ∈ (m.upd k z).es := List.mem_of_getElem? hn
      rw [he] at hmem
      rcases List.mem_append.1 hmem with q | q
      · exact absurd (List.mem_map.2 ⟨_, q, rfl⟩) (find_none.1 h)
      · simp at q; exact q
    · show (m.upd k z).es.map _ = _
      rw [he, List.map_append]; rfl
theorem findBorn_enc {n : Nat} : ∀ {es : List (κ × β × Nat)} {j i : Nat} {e : κ × β × Nat}, (es.map (·.2.2)).Nodup → es[j]? = some e → e.2.2 = n → findBorn n (es.map fun e => (⟨KE.f e.1, VE.f e.2.1, e.2.2⟩ : AEntry)) i = some (i + j)
  | [], j, i, e, _, h, _ => by simp at h
  | a :: es, 0, i, e, _, h, hn => by
    simp at h; subst h
    simp only [List.map_cons, findBorn]
    rw [show Nat.beq a.2.2 n = true from beq_t hn]; rfl
  | a :: es, j + 1, i, e, hd, h, hn => by
    simp only [List.getElem?_cons_succ] at h
    simp only [List.map_cons, List.nodup_cons] at hd
    simp only [List.map_cons, findBorn]
    have : a.2.2 ≠ n := fun q => hd.1 (List.mem_map.2 ⟨e, List.mem_of_getElem? h, by rw [hn, q]⟩)
    rw [show Nat.beq a.2.2 n = false from beq_f this, ifb_false, findBorn_enc hd.2 h hn]
    congr 1; omega
theorem st_is {m : Mp κ β} {k : κ} {w : β} (h : m.find k = some w) (v : β) (hc : m.clock ≤ 9223372036854775807) : stIs (m.bornAt k) (VE.f v) (m.enc KE VE) ((m.upd k v).enc KE VE) := by
  obtain ⟨n, hn⟩ := idx_get h
  have hb : m.bornAt k = n := by unfold bornAt; rw [hn]
  have hy : n < m.clock := m.young _ (List.mem_of_getElem? hn)
  refine ⟨by omega, idxL k m.es, ?_, ?_⟩
  · rw [hb]
    have := findBorn_enc (KE := KE) (VE := VE) (i := 0) m.born hn rfl
    rw [Nat.zero_add] at this; exact this
  · show (m.upd k v).es.map _ = _
    rw [upd_es_some h, setL_enc]; rfl
theorem ent_find (m : Mp κ β) (k : κ) (z : β) : (m.ent k z).find k = some ((m.find k).getD z) := by
  unfold ent
  cases h : m.find k with
  | some w => exact h
  | none => exact upd_same m k z
open Classical in
theorem ent_upd_find (m : Mp κ β) (k k' : κ) (z v : β) : ((m.ent k z).upd k v).find k' = if k' = k then some v else m.find k' := by
  rw [upd_find]
  by_cases c : k' = k
  · rw [if_pos c, if_pos c]
  · rw [if_neg c, if_neg c]
    unfold ent
    cases h : m.find k with
    | some w => rfl
    | none => exact upd_other m z c
theorem ent_upd_clock (m : Mp κ β) (k : κ) (z v : β) : (m.ent k z).clock = ((m.ent k z).upd k v).clock := (upd_clock_some (ent_find m k z) v).symm
theorem upd_clock_le (m : Mp κ β) (k : κ) (v : β) : (m.upd k v).clock ≤ m.clock + 1 := by
  unfold upd; split <;> simp
theorem ent_clock_le (m : Mp κ β) (k : κ) (z : β) : (m.ent k z).clock ≤ m.clock + 1 := by
  unfold ent; split
  · omega
  · exact upd_clock_le m k z
/-- Without k. -/
def del (m : Mp κ β) (k : κ) : Mp κ β :=
  match m.find k with
  | none => m
  | some _ => ⟨m.es.eraseIdx (idxL k m.es), m.clock, m.keys.sublist ((List.eraseIdx_sublist _ _).map _), m.born.sublist ((List.eraseIdx_sublist _ _).map _), fun e he => m.young e ((List.eraseIdx_sublist _ _).mem he)⟩
theorem drop_enc : ∀ (i : Nat) (es : List (κ × β × Nat)), (es.eraseIdx i).map (fun e => (⟨KE.f e.1, VE.f e.2.1, e.2.2⟩ : AEntry)) = dropEntry i (es.map fun e => ⟨KE.f e.1, VE.f e.2.1, e.2.2⟩)
  | i, [] => by cases i <;> rfl
  | 0, e :: es => by simp [dropEntry]
  | i + 1, e :: es => by simp [dropEntry, drop_enc i es]
theorem del_is (m : Mp κ β) (k : κ) : delIs (KE.f k) (m.enc KE VE) ((m.del k).enc KE VE) := by
  refine ⟨_, findA_enc k m.es 0, ?_⟩
  unfold del
  cases h : m.find k with
  | none => rw [show findL k m.es = none from h]; rfl
  | some w =>
    rw [show findL k m.es = some w from h]
    show (m.es.eraseIdx _).map _ = dropEntry (0 + idxL k m.es) _
    rw [drop_enc, Nat.zero_add]; rfl
theorem del_clock (m : Mp κ β) (k : κ) : (m.del k).clock = m.clock := by unfold del; split <;> rfl
theorem erase_find {k : κ} : ∀ {es : List (κ × β × Nat)} {w : β} {k' : κ}, (es.map (·.1)).Nodup → findL k es = some w → findL k' (es.eraseIdx (idxL k es)) = open Classical in if k' = k then none else findL k' es
  | [], w, k', _, h => by simp [findL] at h
  | e :: es, w, k', hd, h => by
    classical
    simp only [List.map_cons, List.nodup_cons] at hd
    simp only [findL] at h
    simp only [idxL]
    split at h
    · rename_i c
      rw [if_pos c]
      simp only [List.eraseIdx_cons_zero, findL]
      by_cases d : k' = k
      · rw [if_pos d, d, find_none, c]; exact hd.1
      · rw [if_neg d, if_neg (by rw [← c]; exact d)]
    · rename_i c
      rw [if_neg c]
      simp only [List.eraseIdx_cons_succ, findL, erase_find hd.2 h]
      by_cases d : k' = k
      · rw [if_pos d, if_pos d, if_neg (by rw [d]; exact c)]
      · rw [if_neg d, if_neg d]
open Classical in
theorem del_find (m : Mp κ β) (k k' : κ) : (m.del k).find k' = if k' = k then none else m.find k' := by
  unfold del
  cases h : m.find k with
  | none =>
    show m.find k' = _
    by_cases c : k' = k
    · rw [if_pos c, c, h]
    · rw [if_neg c]
  | some w => exact erase_find m.keys h
end Mp

/-! Keys and values. -/
theorem sameInt {q : IntKind} (a b : Int) : sameKey (.int q a) (.int q b) = some (decide (a = b)) := by
  show ifb (eqKind q q) (some (eqInt a b)) none = _
  rw [show eqKind q q = true from (eqKind_iff).2 rfl, ifb_true, eqInt_eq]; rfl
def KEnc.int (q : IntKind) : KEnc Int := ⟨.int q, fun _ => rfl, fun a b => ⟨_, sameInt a b, by simp⟩⟩
def VEnc.int (q : IntKind) : VEnc Int := ⟨.int q, fun _ => rfl⟩
def VEnc.bool : VEnc Bool := ⟨.bool, fun _ => rfl⟩
theorem sameInts {q : IntKind} : ∀ {a b : List Int}, a.length = b.length → sameCells (a.map (.int q)) (b.map (.int q)) = some (decide (a = b))
  | [], [], _ => rfl
  | x :: a, y :: b, h => by
    have e : sameKey0 (.int q x) (.int q y) = some (decide (x = y)) := sameInt x y
    simp only [List.map_cons, sameCells, e, ob_eq, Option.bind_some, sameInts (a := a) (b := b) (by simpa using h)]
    by_cases c : x = y
    · subst c; simp
    · simp [c]
  | [], _ :: _, h => by simp at h
  | _ :: _, [], h => by simp at h
theorem ints_free {q : IntKind} : ∀ l : List Int, AV.frees (l.map (.int q)) = true
  | [] => rfl
  | x :: l => by simp only [List.map_cons, AV.frees, AV.free, ints_free l]; rfl
/-- Keys that are structs of numbers. -/
def KEnc.ints {κ : Type} (q : IntKind) (g : κ → List Int) (n : Nat) (hl : ∀ a, (g a).length = n) (inj : ∀ a b, g a = g b → a = b) : KEnc κ :=
  ⟨fun a => .agg ((g a).map (.int q)), fun a => by simp only [AV.free]; exact ints_free _, fun a b => ⟨_, sameInts (by rw [hl, hl]), by simp only [decide_eq_true_eq]; exact ⟨inj a b, fun h => by rw [h]⟩⟩⟩
end Go.Det
