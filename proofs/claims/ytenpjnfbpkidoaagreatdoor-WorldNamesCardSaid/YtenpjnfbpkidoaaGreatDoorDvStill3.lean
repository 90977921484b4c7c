/- The rest of the operations that leave the heap alone; the law of all of them. -/
import Derived.Test.YtenpjnfbpkidoaaGreatDoorDvStill2
set_option linter.unusedVariables false
set_option linter.unusedSimpArgs false
namespace Go.Det
variable {P : Program} {ρ : Names}

theorem bytesOfA_cons {v : AV} {l : List AV} {r : List UInt8} (h : bytesOfA (v :: l) = some r) : ∃ n r2, v = .int .u8 (.ofNat n) ∧ bytesOfA l = some r2 ∧ r = UInt8.ofNat n :: r2 := by
  unfold bytesOfA at h
  split at h
  · rename_i e; cases e
  · rename_i n l2 e
    injection e with e1 e2
    subst e1; subst e2
    simp only [ifb_none, om_some] at h
    obtain ⟨_, r2, h2, rfl⟩ := h
    exact ⟨n, r2, rfl, h2, rfl⟩
  · cases h
theorem bytes_sound : ∀ {cs : List AV} {cs' : List Value} {l : List UInt8}, VRs ρ cs cs' → bytesOfA cs = some l → ∀ (s : ByteArray) (w : World),
    (forIn cs' s (fun c r => (match c with | .int .u8 n => pure (ForInStep.yield (r.push (UInt8.ofNat n.toNat))) | _ => (fun (_ : PUnit) => ForInStep.yield r) <$> stuck "bytesToString: byte expected") : Value → ByteArray → Sem (ForInStep ByteArray))).run P w = .ok ⟨s.data ++ l.toArray⟩ w
  | _, _, l, .nil, h, s, w => by
    simp only [bytesOfA] at h; injection h with h; subst h
    simp
  | _, _, l, .cons hv t, h, s, w => by
    obtain ⟨n, r2, rfl, h2, rfl⟩ := bytesOfA_cons h
    cases hv
    simp only [List.forIn_cons, Sem.run_bind, Sem.run_pure, Result.andThen_ok]
    rw [bytes_sound t h2]
    congr 2
    apply Array.ext'
    simp [ByteArray.push]

theorem convert_sound {st : St} {w : World} (hH : HR ρ st w) {s t : TypeId} {x v : AV} {x' : Value} (h : convertA P st s t x = some v) (hx : VR ρ x x') : Says P ρ w v (convert s t x') := by
  unfold convertA at h
  split at h
  · rename_i k1 k n m hs hd
    cases hx; injection h with h; subst h
    exact ⟨_, by simp [convert, run_underlying' hs, run_underlying' hd, Conv.intToInt]; rfl, by rw [wrapF_eq]; exact .int _ _⟩
  · rename_i s0 hs hd
    cases hx; injection h with h; subst h
    exact ⟨.string s0, by simp [convert, run_underlying' hs, run_underlying' hd], .str _⟩
  · rename_i e hs hd
    split at h
    · rename_i he
      split at h
      · cases hx; injection h with h; subst h
        exact ⟨.string ⟨#[]⟩, by simp [convert, run_underlying' hs, run_underlying' hd, run_underlying' he, Conv.bytesToString]; rfl, .str _⟩
      · rename_i b o n cap ex
        simp only [ob_some, om_some] at h
        obtain ⟨r, h1, cs, h2, l, h3, rfl⟩ := h
        cases hx with
        | slice hL hlen hcap hex hA =>
          rename_i L a cap'
          by_cases hn : n = 0
          · subst hn
            obtain ⟨_, h4, h5⟩ := sub_some h2
            obtain rfl : cs = [] := List.length_eq_zero_iff.1 h5
            simp only [bytesOfA] at h3; injection h3 with h3; subst h3
            refine ⟨.string ⟨#[]⟩, ?_, .str _⟩
            simp [convert, run_underlying' hs, run_underlying' hd, run_underlying' he, Conv.bytesToString, loadCells, loadCellsFrom]
            rfl
          · obtain ⟨L', hL', hO⟩ := hH.obj _ _ (rowOf_some.1 h1)
            obtain rfl : L' = L := by rw [hL] at hL'; injection hL' with h; exact h.symm
            rcases hA with hA | ⟨rfl, _⟩
            · omega
            · obtain ⟨l', k1, k2⟩ := loadCells_sound (P := P) hO h2
              refine ⟨.string ⟨l.toArray⟩, ?_, .str _⟩
              have := bytes_sound (P := P) k2 h3 ByteArray.empty w
              simp [convert, run_underlying' hs, run_underlying' hd, run_underlying' he, Conv.bytesToString, k1]
              erw [this]
              show Result.ok (Value.string ⟨#[] ++ l.toArray⟩) w = _
              simp
      · rename_i l0 n cap ex own
        simp only [om_some] at h
        obtain ⟨l, h3, rfl⟩ := h
        cases hx with
        | vs hv hsc hl hlen hcap hex hA hO =>
          rename_i l' a cap' blk off
          by_cases hn : n = 0
          · subst hn
            have : l0 = [] := List.length_eq_zero_iff.1 (by simpa using hl)
            subst this
            simp only [bytesOfA] at h3; injection h3 with h3; subst h3
            refine ⟨.string ⟨#[]⟩, ?_, .str _⟩
            simp [convert, run_underlying' hs, run_underlying' hd, run_underlying' he, Conv.bytesToString, loadCells, loadCellsFrom]
            rfl
          · rcases hA with hA | ⟨rfl, hm⟩
            · omega
            · have hsub : sub 0 n l0 = some l0 := by
                show takeX n l0 = some l0
                rw [takeX_some]; exact ⟨by omega, by rw [List.take_of_length_le (by omega)]⟩
              obtain ⟨l1, k1, k2⟩ := loadCells_at (P := P) (mem_at hH hv hm) hsub
              refine ⟨.string ⟨l.toArray⟩, ?_, .str _⟩
              have := bytes_sound (P := P) k2 h3 ByteArray.empty w
              have k1' := k1 w.drawn
              rw [Nat.add_zero] at k1'
              simp [convert, run_underlying' hs, run_underlying' hd, run_underlying' he, Conv.bytesToString, k1']
              erw [this]
              show Result.ok (Value.string ⟨#[] ++ l.toArray⟩) w = _
              simp
        | vsNil =>
          simp only [bytesOfA] at h3; injection h3 with h3; subst h3
          exact ⟨.string ⟨#[]⟩, by simp [convert, run_underlying' hs, run_underlying' hd, run_underlying' he, Conv.bytesToString]; rfl, .str _⟩
      · cases h
    · cases h
  · cases h

theorem indexAddr_sound {t : TypeId} {x i v : AV} {x' i' : Value} (h : indexAddrA P t x i = some v) (hx : VR ρ x x') (hi : VR ρ i i') (w : World) : Says P ρ w v (Instr.indexAt t x' i') := by
  unfold indexAddrA at h
  split at h
  · rename_i elem b o len cap ex e k n hu
    simp only [ifb_none, ob_some] at h
    obtain ⟨h1, s, h2, h3, h4⟩ := h
    injection h4 with h4; subst h4
    have hlt := of_ble h1
    have hse : s = e := of_beq h3
    subst hse
    cases hi
    cases hx with
    | slice hL hlen hcap hex hA =>
      rename_i L a cap'
      rcases hA with hA | ⟨rfl, _⟩
      · omega
      · refine ⟨.pointer (some ⟨L.blk, L.off + o + n * s, none⟩), ?_, ?_⟩
        · have : (0 : Int) ≤ (n : Int) ∧ (n : Int) < (len : Int) := by omega
          simp [Instr.indexAt, asIntOf, run_underlying' hu, run_sizeOf' h2, addr_add]
          intro hc; omega
        · rw [Nat.add_assoc]; exact .ptr hL
  · rename_i len elem b o k n hu
    simp only [ifb_none, om_some] at h
    obtain ⟨h1, s, h2, rfl⟩ := h
    have hlt := of_ble h1
    cases hi
    cases hx with
    | ptr hL =>
      rename_i L
      refine ⟨.pointer (some ⟨L.blk, L.off + o + n * s, none⟩), ?_, ?_⟩
      · simp [Instr.indexAt, asIntOf, run_underlying' hu, run_sizeOf' h2, Instr.sureAddr]
        rw [if_pos (by omega), addr_add]
      · rw [Nat.add_assoc]; exact .ptr hL
  · rename_i elem l len cap ex own e k n hu
    simp only [ifb_none, ob_some] at h
    obtain ⟨h1, s, h2, h3, h4⟩ := h
    injection h4 with h4; subst h4
    have hlt := of_ble h1
    have hse : s = e := of_beq h3
    subst hse
    cases hi
    cases hx with
    | vs hv hsc hl hlen hcap hex hA hO =>
      rename_i l' a cap' blk off
      rcases hA with hA | ⟨rfl, hm⟩
      · omega
      · refine ⟨.pointer (some ⟨blk, off + n * s, none⟩), ?_, .vptr hv hsc hm⟩
        have : (0 : Int) ≤ (n : Int) ∧ (n : Int) < (len : Int) := by omega
        simp [Instr.indexAt, asIntOf, run_underlying' hu, run_sizeOf' h2, addr_add]
        intro hc; omega
    | vsNil => omega
  · rename_i len elem l o k n hu
    simp only [ifb_none, om_some] at h
    obtain ⟨h1, s, h2, rfl⟩ := h
    have hlt := of_ble h1
    cases hi
    cases hx with
    | vptr hv hsc hm =>
      rename_i l' blk off
      refine ⟨.pointer (some ⟨blk, off + o + n * s, none⟩), ?_, ?_⟩
      · simp [Instr.indexAt, asIntOf, run_underlying' hu, run_sizeOf' h2, Instr.sureAddr]
        rw [if_pos (by omega), addr_add]
      · rw [Nat.add_assoc]; exact .vptr hv hsc hm
  · rename_i len elem g o k n hu
    simp only [ifb_none, om_some] at h
    obtain ⟨h1, s, h2, rfl⟩ := h
    have hlt := of_ble h1
    cases hi
    cases hx
    refine ⟨.pointer (some ⟨g, o + n * s, none⟩), ?_, .gptr⟩
    simp [Instr.indexAt, asIntOf, run_underlying' hu, run_sizeOf' h2, Instr.sureAddr]
    rw [if_pos (by omega), addr_add]
  · cases h

theorem index_sound {t : TypeId} {x i v : AV} {x' i' : Value} (h : indexA P t x i = some v) (hx : VR ρ x x') (hi : VR ρ i i') (w : World) : Says P ρ w v (Instr.index t x' i') := by
  unfold indexA at h
  split at h
  · rename_i len elem cs k n hu
    simp only [ifb_none, ob_some] at h
    obtain ⟨h1, s, h2, h3⟩ := h
    have hlt := of_ble h1
    cases hi
    cases hx with
    | agg hx =>
      obtain ⟨v', k1, k2⟩ := part_sound h3 hx w
      refine ⟨v', ?_, k2⟩
      simp [Instr.index, asIntOf, run_underlying' hu, run_sizeOf' h2]
      rw [if_pos (by omega)]; exact k1
  · rename_i s k n hu
    simp only [om_some, nth_eq] at h
    obtain ⟨b, h1, rfl⟩ := h
    cases hi; cases hx
    refine ⟨.int .u8 b.toNat, ?_, .int _ _⟩
    have : s[n]? = some b := by
      rw [← h1]; simp only [Array.getElem?_toList]; rfl
    simp [Instr.index, asIntOf, run_underlying' hu, this]
  · cases h

theorem fieldT_some {t f : Nat} {fd : Field} (h : fieldT P t f = some fd) : ∃ fs, P.underlying t = some (.struct fs) ∧ fs[f]? = some fd := by
  unfold fieldT at h
  split at h
  · exact ⟨_, by assumption, h⟩
  · cases h

theorem sameKey0_sound {d : TypeDesc} {t : TypeId} (hu : P.underlying t = some d) {k e : AV} {k' e' : Value} {b : Bool} (h : sameKey0 k e = some b) (hk : VR ρ k k') (he : VR ρ e e') (hkk : kindAt P t k = true) : Instr.sameNow d k' e' = some b := by
  unfold kindAt at hkk
  rw [hu] at hkk
  unfold sameKey0 at h
  split at h
  · rename_i k1 a k2 c
    rw [ifb_none, eqKind_iff] at h
    obtain ⟨rfl, h⟩ := h
    injection h with h; subst h
    cases hk; cases he
    cases d <;> simp at hkk
    simp [Instr.sameNow, eqInt_eq]
  · rename_i a c
    injection h with h; subst h
    cases hk; cases he
    cases d <;> simp at hkk
    simp [Instr.sameNow, eqBytes_eq, beq_toListBytes, ByteArray.toList_eq]
  · rename_i a c
    injection h with h; subst h
    cases hk; cases he
    cases d <;> simp at hkk
    simp [Instr.sameNow, eqBool_eq]
  · cases h
/-! Keys that are structs of plain fields. -/
theorem kindAt_agg {t : TypeId} {k : AV} (h : kindAt P t k = true) : aggT P t = some false := by
  unfold kindAt at h
  unfold aggT
  split at h <;> first | (rename_i hu; rw [hu]; done) | cases h
theorem kindAt_eqA {t : TypeId} {x y : AV} {b : Bool} (h : kindAt P t x = true) (hs : sameKey0 x y = some b) (d : Nat) : eqA P (d + 1) t x y = some b := by
  unfold kindAt at h
  unfold eqA
  split at h
  · rename_i hu
    rw [hu]
    cases y <;> first | (simp only [sameKey0] at hs; cases hs; done) | exact hs
  · rename_i hu
    rw [hu]
    cases y <;> first | (simp only [sameKey0] at hs; cases hs; done) | exact hs
  · rename_i hu
    rw [hu]
    cases y <;> first | (simp only [sameKey0] at hs; cases hs; done) | exact hs
  · cases h
theorem kindAt_part {t : TypeId} {x : AV} (h : kindAt P t x = true) {pre cs : List AV} {y : AV} : partA P t (pre ++ y :: cs) pre.length = some y := by
  simp only [partA, ob_eq, kindAt_agg h, Option.bind_some, ifb_false, nth_eq]
  simp
theorem flat_eqA {d : Nat} : ∀ {fs : List Field} {cs ds pre pre' : List AV} {b : Bool}, flatFrom P pre.length fs cs = true → pre'.length = pre.length → sameCells cs ds = some b → fieldsEqA P (eqA P (d + 1)) (pre ++ cs) (pre' ++ ds) fs = some b
  | [], [], [], _, _, b, _, _, h => h
  | [], [], _ :: _, _, _, _, _, _, h => by simp [sameCells] at h
  | [], _ :: _, _, _, _, _, h, _, _ => by simp [flatFrom] at h
  | _ :: _, [], _, _, _, _, h, _, _ => by simp [flatFrom] at h
  | _ :: _, _ :: _, [], _, _, _, _, _, h => by simp [sameCells] at h
  | f :: fs, c :: cs, x :: ds, pre, pre', b, hf, hl, h => by
    simp only [flatFrom] at hf
    cases hn : (f.name == "_") with
    | true => rw [hn, ifb_true] at hf; cases hf
    | false =>
      rw [hn, ifb_false, ifb_eq, ifb_eq] at hf
      by_cases c1 : Nat.beq f.offset pre.length = true
      · rw [if_pos c1] at hf
        by_cases c2 : kindAt P f.type c = true
        · rw [if_pos c2] at hf
          have e := of_beq c1
          simp only [fieldsEqA, hn, ifb_false]
          rw [e, kindAt_part c2]
          rw [← hl, kindAt_part c2]
          simp only [sameCells, ob_some] at h
          obtain ⟨r, h1, h2⟩ := h
          simp only [ob_eq, Option.bind_some, kindAt_eqA c2 h1]
          cases r with
          | false => rw [ifb_false] at h2 ⊢; exact h2
          | true =>
            rw [ifb_true] at h2 ⊢
            have := flat_eqA (d := d) (fs := fs) (cs := cs) (ds := ds) (pre := pre ++ [c]) (pre' := pre' ++ [x]) (b := b) (by rw [List.length_append]; exact hf) (by simp [hl]) h2
            simpa using this
        · rw [if_neg c2] at hf; cases hf
      · rw [if_neg c1] at hf; cases hf
theorem keyKind_struct {t : TypeId} {k : AV} (h : keyKind P t k = true) : kindAt P t k = true ∧ (∀ cs, k ≠ .agg cs) ∨ ∃ fs cs, P.underlying t = some (.struct fs) ∧ k = .agg cs ∧ P.stoodInHeld t = false ∧ flatFrom P 0 fs.toList cs = true := by
  unfold keyKind at h
  split at h
  · rename_i fs cs hu
    rw [ifb_eq] at h
    by_cases c : P.stoodInHeld t = true
    · rw [if_pos c] at h; cases h
    · rw [if_neg c] at h; exact .inr ⟨fs, cs, hu, rfl, by simpa using c, h⟩
  · refine .inl ⟨h, fun cs e => ?_⟩
    subst e
    unfold kindAt at h
    split at h
    · rename_i e; cases e
    · rename_i e; cases e
    · rename_i e; cases e
    · cases h
theorem equal_key {t : TypeId} {fs : Array Field} {cs : List AV} {e : AV} {k' e' : Value} {b : Bool} (hu : P.underlying t = some (.struct fs)) (hs : P.stoodInHeld t = false) (hf : flatFrom P 0 fs.toList cs = true) (h : sameKey (.agg cs) e = some b) (hk : VR ρ (.agg cs) k') (he : VR ρ e e') (w : World) : (Op.equal t k' e').run P w = .ok b w := by
  cases e with
  | agg ds =>
    have h' : sameCells cs ds = some b := h
    have e1 := flat_eqA (P := P) (d := 9998) (pre := []) (pre' := []) hf rfl h'
    have e2 : eqA P (9999 + 1) t (.agg cs) (.agg ds) = some b := by
      have e3 : ∀ d, eqA P (d + 1) t (.agg cs) (.agg ds) = fieldsEqA P (eqA P d) cs ds fs.toList := fun d => by simp only [eqA, hu, hs, ifb_false]
      rw [e3]; exact e1
    exact eq_sound w 10000 t (.agg cs) (.agg ds) k' e' b e2 hk he
  | _ => simp [sameKey, sameKey0] at h
theorem findAsking_sound {t : TypeId} {k : AV} {k' : Value} {w : World} (heq : ∀ e e' b, sameKey k e = some b → VR ρ e e' → (Op.equal t k' e').run P w = .ok b w) : ∀ {es : List AEntry} {es' : List MapEntry} (i : Nat) {r : Option (Nat × AV)}, ERs ρ es es' → findA k es i = some r →
    ∃ r', (Instr.findAsking t k' es' i).run P w = .ok r' w ∧ ((r = none ∧ r' = none) ∨ ∃ j v v', r = some (j, v) ∧ r' = some (j, v') ∧ VR ρ v v')
  | _, _, i, r, .nil, h => by simp only [findA] at h; injection h with h; subst h; exact ⟨none, rfl, .inl ⟨rfl, rfl⟩⟩
  | _, _, i, r, .cons (k := k2) (v := v2) (k' := k3) (v' := v3) hk2 hv2 t2, h => by
    simp only [findA, ob_some] at h
    obtain ⟨b, h1, h2⟩ := h
    have hs := heq _ _ _ h1 hk2
    cases b with
    | true =>
      rw [ifb_true] at h2; injection h2 with h2; subst h2
      exact ⟨some (i, v3), by simp [Instr.findAsking, hs], .inr ⟨i, _, _, rfl, rfl, hv2⟩⟩
    | false =>
      rw [ifb_false] at h2
      obtain ⟨r', k1, k2⟩ := findAsking_sound heq (i + 1) t2 h2
      exact ⟨r', by simp [Instr.findAsking, hs, k1], k2⟩
theorem find_sound {d : TypeDesc} {t : TypeId} (hu : P.underlying t = some d) {k : AV} {k' : Value} (hk : VR ρ k k') (hkk : kindAt P t k = true) (hn : ∀ cs, k ≠ .agg cs) : ∀ {es : List AEntry} {es' : List MapEntry} (i : Nat) {r : Option (Nat × AV)}, ERs ρ es es' → findA k es i = some r →
    ∃ r', Instr.findNow d k' es' i = some r' ∧ ((r = none ∧ r' = none) ∨ ∃ j v v', r = some (j, v) ∧ r' = some (j, v') ∧ VR ρ v v')
  | _, _, i, r, .nil, h => by simp only [findA] at h; injection h with h; subst h; exact ⟨none, rfl, .inl ⟨rfl, rfl⟩⟩
  | _, _, i, r, .cons (k := k2) (v := v2) (k' := k3) (v' := v3) hk2 hv2 t2, h => by
    simp only [findA, ob_some] at h
    obtain ⟨b, h1, h2⟩ := h
    have h1' : sameKey0 k k2 = some b := by
      unfold sameKey at h1
      split at h1
      · exact absurd rfl (hn _)
      · exact h1
    have hs := sameKey0_sound hu h1' hk hk2 hkk
    cases b with
    | true =>
      rw [ifb_true] at h2; injection h2 with h2; subst h2
      exact ⟨some (i, v3), by simp [Instr.findNow, hs], .inr ⟨i, _, _, rfl, rfl, hv2⟩⟩
    | false =>
      rw [ifb_false] at h2
      obtain ⟨r', k1, k2⟩ := find_sound hu hk hkk hn (i + 1) t2 h2
      exact ⟨r', by simp [Instr.findNow, hs, k1], k2⟩
theorem findNow_struct {fs : Array Field} {k' : Value} : ∀ (es' : List MapEntry) (i : Nat), es' ≠ [] → Instr.findNow (.struct fs) k' es' i = none
  | [], _, h => absurd rfl h
  | e :: es, i, _ => by
    have : Instr.sameNow (.struct fs) k' e.key = none := by simp [Instr.sameNow]
    simp [Instr.findNow, this]
theorem findKey_sound {t : TypeId} {k : AV} {k' : Value} (hk : VR ρ k k') (hkk : keyKind P t k = true) {es : List AEntry} {es' : List MapEntry} {r : Option (Nat × AV)} (he : ERs ρ es es') (h : findA k es 0 = some r) (w : World) :
    ∃ r', (Instr.findKey t k' es').run P w = .ok r' w ∧ ((r = none ∧ r' = none) ∨ ∃ j v v', r = some (j, v) ∧ r' = some (j, v') ∧ VR ρ v v') := by
  rcases keyKind_struct hkk with ⟨h0, hn⟩ | ⟨fs, cs, hu, rfl, hs, hf⟩
  · have : ∃ d, P.underlying t = some d := by
      unfold kindAt at h0
      cases hu : P.underlying t with
      | none => rw [hu] at h0; simp at h0
      | some d => exact ⟨d, rfl⟩
    obtain ⟨d, hu⟩ := this
    obtain ⟨r', k1, k2⟩ := find_sound hu hk h0 hn 0 he h
    exact ⟨r', by simp [Instr.findKey, run_underlying' hu, k1], k2⟩
  · obtain ⟨r', k1, k2⟩ := findAsking_sound (P := P) (w := w) (fun e e' b h1 h2 => equal_key hu hs hf h1 hk h2 w) 0 he h
    refine ⟨r', ?_, k2⟩
    cases es' with
    | nil =>
      cases he
      simp only [findA] at h; injection h with h; subst h
      rcases k2 with ⟨_, rfl⟩ | ⟨_, _, _, e, _⟩
      · simp [Instr.findKey, run_underlying' hu, Instr.findNow]
      · cases e
    | cons e es =>
      simp only [Instr.findKey, Sem.run_bind, run_underlying' hu, Result.andThen_ok, findNow_struct (fs := fs) (k' := k') (e :: es) 0 (by simp), k1]
theorem checkKey_flat {t : TypeId} {k : AV} {k' : Value} (hk : VR ρ k k') (hkk : kindAt P t k = true) (b : Bool) (n : Nat) (w : World) : (Instr.checkKey b (n + 1) t k').run P w = .ok () w := by
  unfold kindAt at hkk
  cases hu : P.underlying t with
  | none => rw [hu] at hkk; simp at hkk
  | some d =>
    rw [hu] at hkk
    cases hk <;> cases d <;> simp at hkk <;> simp [Instr.checkKey, run_underlying' hu]
theorem flat_check {b : Bool} {n : Nat} {w : World} : ∀ {fs : List Field} {cs pre : List AV} {cs' pre' : List Value}, flatFrom P pre.length fs cs = true → VRs ρ pre pre' → VRs ρ cs cs' →
    (forIn fs PUnit.unit fun f _ => (if f.name ≠ "_" then (do
        let v ← part f.type ⟨pre' ++ cs'⟩ f.offset
        Instr.checkKey b (n + 1) f.type v
        pure (ForInStep.yield PUnit.unit)) else pure (ForInStep.yield PUnit.unit) : Sem (ForInStep PUnit))).run P w = .ok PUnit.unit w
  | [], _, _, _, _, _, _, _ => rfl
  | _ :: _, [], _, _, _, h, _, _ => by simp [flatFrom] at h
  | f :: fs, c :: cs, pre, _, pre', hf, hp, .cons (v' := c') (l' := cs') hc hcs => by
    simp only [flatFrom] at hf
    cases hn : (f.name == "_") with
    | true => rw [hn, ifb_true] at hf; cases hf
    | false =>
      rw [hn, ifb_false, ifb_eq, ifb_eq] at hf
      by_cases c1 : Nat.beq f.offset pre.length = true
      · rw [if_pos c1] at hf
        by_cases c2 : kindAt P f.type c = true
        · rw [if_pos c2] at hf
          have e := of_beq c1
          have hn' : f.name ≠ "_" := by simpa using hn
          have hpart := part_sound (P := P) (t := f.type) (off := f.offset) (cs := pre ++ c :: cs) (cs' := pre' ++ c' :: cs') (v := c) (by rw [e]; exact kindAt_part (y := c) c2) (hp.append (.cons hc hcs)) w
          obtain ⟨v', p1, p2⟩ := hpart
          have ih := flat_check (b := b) (n := n) (w := w) (fs := fs) (cs := cs) (pre := pre ++ [c]) (cs' := cs') (pre' := pre' ++ [c']) (by rw [List.length_append]; exact hf) (hp.append (.cons hc .nil)) hcs
          simp only [List.forIn_cons, if_pos hn', Sem.run_bind, p1, Result.andThen_ok, checkKey_flat p2 c2 b n w, Sem.run_pure]
          simpa using ih
        · rw [if_neg c2] at hf; cases hf
      · rw [if_neg c1] at hf; cases hf
theorem checkKey_sound {t : TypeId} {k : AV} {k' : Value} (hk : VR ρ k k') (hkk : keyKind P t k = true) (b : Bool) (w : World) : (Instr.checkKey b 10000 t k').run P w = .ok () w := by
  rcases keyKind_struct hkk with ⟨h0, hn⟩ | ⟨fs, cs, hu, rfl, hs, hf⟩
  · exact checkKey_flat hk h0 b 9999 w
  · cases hk with
    | agg hk =>
      rw [show (10000 : Nat) = 9998 + 1 + 1 from rfl, Instr.checkKey]
      simp only [Sem.run_bind, run_underlying' hu, Result.andThen_ok]
      have := flat_check (b := b) (n := 9998) (w := w) (pre := []) (pre' := []) hf .nil hk
      rw [← Array.forIn_toList]
      simp only [List.nil_append] at this
      simp only [this, Result.andThen_ok, Sem.run_pure]

theorem mapOf_some {st : St} {b : Nat} {q : List AEntry × Nat} : mapOf st b = some q ↔ st.heap.get b = some (.map q.1 q.2) := by
  unfold mapOf
  rw [ob_some]
  constructor
  · rintro ⟨o, h, h'⟩
    cases o <;> simp at h'
    subst h'; exact h
  · intro h; exact ⟨_, h, rfl⟩

theorem lookup_sound {st : St} {w : World} (hH : HR ρ st w) {t : TypeId} {x k v : AV} {x' k' : Value} {ok : Bool} (h : lookupA P st t x k ok = some v) (hx : VR ρ x x') (hk : VR ρ k k') : Says P ρ w v (Instr.lookup t x' k' ok) := by
  unfold lookupA at h
  split at h
  · rename_i key elem hu
    simp only [ifb_none, ob_some] at h
    obtain ⟨hkk, es, h1, r, h2, h3⟩ := h
    have hes : ∃ es' : List MapEntry, ERs ρ es es' ∧ ((x' = .map none ∧ es' = []) ∨ ∃ r c, x' = .map (some r) ∧ w.heap[r]? = some (.map ⟨es'⟩ c)) := by
      unfold entriesOf at h1
      split at h1
      · cases hx; injection h1 with h1; subst h1; exact ⟨[], .nil, .inl ⟨rfl, rfl⟩⟩
      · rename_i b
        cases hx with
        | map hL =>
          rename_i L
          rw [om_some] at h1
          obtain ⟨q, h4, rfl⟩ := h1
          obtain ⟨L', hL', es', h5, h6⟩ := hH.obj _ _ (mapOf_some.1 h4)
          obtain rfl : L' = L := by rw [hL] at hL'; injection hL' with h; exact h.symm
          exact ⟨es', h6, .inr ⟨_, _, rfl, h5⟩⟩
      · cases h1
    obtain ⟨es', he, hrun⟩ := hes
    obtain ⟨r', k1, k2⟩ := findKey_sound (P := P) hk hkk he h2 w
    have hc := fun b => checkKey_sound (P := P) hk hkk b w
    have main : ∀ u : Value, ((∃ p, r' = some p ∧ u = (if ok then .tuple #[p.2, .bool true] else p.2)) ∨ (r' = none ∧ ∃ z, (zeroValue elem).run P w = .ok z w ∧ u = (if ok then .tuple #[z, .bool false] else z))) →
        (Instr.lookup t x' k' ok).run P w = .ok u w := by
      intro u hu'
      unfold Instr.lookup
      rcases hrun with ⟨rfl, rfl⟩ | ⟨rr, c, rfl, hobj⟩
      · rcases hu' with ⟨p, rfl, rfl⟩ | ⟨rfl, z, hz, rfl⟩
        · simp [run_underlying' hu, hc, k1]
        · simp [run_underlying' hu, hc, k1, hz]
      · rcases hu' with ⟨p, rfl, rfl⟩ | ⟨rfl, z, hz, rfl⟩
        · simp [run_underlying' hu, hc, k1, getObj, Sem.run, hobj]
        · simp [run_underlying' hu, hc, k1, getObj, Sem.run, hobj, hz]
    rcases k2 with ⟨rfl, rfl⟩ | ⟨j, u, u', rfl, rfl, hu'⟩
    · simp only [om_some] at h3
      obtain ⟨z, h4, rfl⟩ := h3
      obtain ⟨z', hz, hzr⟩ := run_zeroValue' (ρ := ρ) h4 w
      refine ⟨_, main _ (.inr ⟨rfl, z', hz, rfl⟩), ?_⟩
      cases ok
      · exact hzr
      · exact .tuple (.cons hzr (.cons (.bool _) .nil))
    · injection h3 with h3; subst h3
      refine ⟨_, main _ (.inl ⟨_, rfl, rfl⟩), ?_⟩
      cases ok
      · exact hu'
      · exact .tuple (.cons hu' (.cons (.bool _) .nil))
  · cases h

theorem len_sound {st : St} {w : World} (hH : HR ρ st w) {t ty : TypeId} {x v : AV} {x' : Value} (h : lenOpA P st t x = some v) (hx : VR ρ x x') {A : Array TypeId} {X : Array Value} (hA : A[0]? = some t) (hX : X[0]? = some x') : Says P ρ w v (Builtin.len_ A ty X) := by
  unfold lenOpA at h
  split at h
  · rename_i s hu; cases hx; injection h with h; subst h
    exact ⟨_, by simp [Builtin.len_, hA, hX, run_underlying' hu]; rfl, .int _ _⟩
  · rename_i n e hu; injection h with h; subst h
    exact ⟨goInt n, by simp [Builtin.len_, hA, hX, run_underlying' hu], .int _ _⟩
  · rename_i e b o n c ex es hu; cases hx; injection h with h; subst h
    exact ⟨goInt n, by simp [Builtin.len_, hA, hX, run_underlying' hu], .int _ _⟩
  · rename_i e hu; cases hx; injection h with h; subst h
    exact ⟨goInt 0, by simp [Builtin.len_, hA, hX, run_underlying' hu], .int _ _⟩
  · rename_i e l n c ex own es hu
    injection h with h; subst h
    cases hx
    · exact ⟨goInt n, by simp [Builtin.len_, hA, hX, run_underlying' hu], .int _ _⟩
    · exact ⟨goInt 0, by simp [Builtin.len_, hA, hX, run_underlying' hu], .int _ _⟩
  · rename_i k e hu; cases hx; injection h with h; subst h
    exact ⟨goInt 0, by simp [Builtin.len_, hA, hX, run_underlying' hu], .int _ _⟩
  · rename_i k e b hu
    rw [om_some] at h
    obtain ⟨q, h4, rfl⟩ := h
    cases hx with
    | map hL =>
      rename_i L
      obtain ⟨L', hL', es', h5, h6⟩ := hH.obj _ _ (mapOf_some.1 h4)
      obtain rfl : L' = L := by rw [hL] at hL'; injection hL' with h; exact h.symm
      have hlen : ∀ {a : List AEntry} {b : List MapEntry}, ERs ρ a b → b.length = a.length := by
        intro a b h; induction h <;> simp_all
      refine ⟨goInt q.1.length, ?_, .int _ _⟩
      simp [Builtin.len_, hA, hX, run_underlying' hu, getObj, Sem.run, h5, hlen h6]
  · cases h
theorem cap_sound {t ty : TypeId} {x v : AV} {x' : Value} (h : capA P t x = some v) (hx : VR ρ x x') {A : Array TypeId} {X : Array Value} (hA : A[0]? = some t) (hX : X[0]? = some x') (w : World) : Says P ρ w v (Builtin.cap_ A ty X) := by
  unfold capA at h
  split at h
  · rename_i e b o n c es hu
    injection h with h; subst h
    cases hx with
    | slice hL hlen hcap hex hA2 =>
      have := hex rfl
      exact ⟨goInt c, by simp [Builtin.cap_, hA, hX, run_underlying' hu, this], .int _ _⟩
  · rename_i e l n c own es hu
    injection h with h; subst h
    cases hx with
    | vs hv hsc hl hlen hcap hex hA2 hO =>
      have := hex rfl
      exact ⟨goInt c, by simp [Builtin.cap_, hA, hX, run_underlying' hu, this], .int _ _⟩
    | vsNil => exact ⟨goInt 0, by simp [Builtin.cap_, hA, hX, run_underlying' hu], .int _ _⟩
  · rename_i e hu; cases hx; injection h with h; subst h
    exact ⟨goInt 0, by simp [Builtin.cap_, hA, hX, run_underlying' hu], .int _ _⟩
  · cases h

theorem min_sound : ∀ {l : List AV} {l' : List Value} {a v : AV} {a' : Value}, foldMM true a l = some v → VR ρ a a' → VRs ρ l l' → ∀ w, Says P ρ w v (l'.foldlM Builtin.min2 a')
  | _, _, a, v, a', h, ha, .nil, w => by
    have : v = a := by cases a <;> simp [foldMM] at h <;> exact h.symm
    subst this; exact ⟨a', rfl, ha⟩
  | _, _, a, v, a', h, ha, .cons hx t, w => by
    cases ha <;> cases hx <;> simp only [foldMM, reduceCtorEq] at h
    rename_i k x k' y
    simp only [ifb_true] at h
    obtain ⟨v', k1, k2⟩ := min_sound h (.int _ _) t w
    refine ⟨v', ?_, k2⟩
    rw [← k1]
    simp only [List.foldlM_cons, Builtin.min2, Sem.run_bind, Sem.run_pure, Result.andThen_ok, leInt_eq, ifb_eq, decide_eq_true_eq]
    congr 3
    by_cases c : x ≤ y
    · rw [if_pos c, if_neg (by omega)]
    · rw [if_neg c, if_pos (by omega)]
theorem max_sound : ∀ {l : List AV} {l' : List Value} {a v : AV} {a' : Value}, foldMM false a l = some v → VR ρ a a' → VRs ρ l l' → ∀ w, Says P ρ w v (l'.foldlM Builtin.max2 a')
  | _, _, a, v, a', h, ha, .nil, w => by
    have : v = a := by cases a <;> simp [foldMM] at h <;> exact h.symm
    subst this; exact ⟨a', rfl, ha⟩
  | _, _, a, v, a', h, ha, .cons hx t, w => by
    cases ha <;> cases hx <;> simp only [foldMM, reduceCtorEq] at h
    rename_i k x k' y
    simp only [ifb_false] at h
    obtain ⟨v', k1, k2⟩ := max_sound h (.int _ _) t w
    refine ⟨v', ?_, k2⟩
    rw [← k1]
    simp only [List.foldlM_cons, Builtin.max2, Sem.run_bind, Sem.run_pure, Result.andThen_ok, leInt_eq, ifb_eq, decide_eq_true_eq]
    congr 3
    by_cases c : y ≤ x
    · rw [if_pos c, if_neg (by omega)]
    · rw [if_neg c, if_pos (by omega)]


theorem ifaceA_sound {t : TypeId} {x v : AV} {x' : Value} (h : ifaceA P t x = some v) (hx : VR ρ x x') (w : World) : Says P ρ w v (Instr.makeInterface t x') := by
  unfold ifaceA at h
  split at h
  · cases h
  · rename_i d hn hu
    injection h with h; subst h
    refine ⟨.iface t x', ?_, .iface hx⟩
    cases d <;> first | (exact (hn _ rfl).elim) | simp [Instr.makeInterface, run_underlying' hu]
  · cases h
theorem assertA_sound {t xt : TypeId} {ok : Bool} {x v : AV} {x' : Value} (h : assertA P t ok x = some v) (hx : VR ρ x x') (w : World) : Says P ρ w v (Instr.typeAssert x' xt t ok) := by
  unfold assertA at h
  split at h
  · cases h
  · rename_i d u y hn hu
    rw [ifb_none] at h
    obtain ⟨h1, h2⟩ := h
    injection h2 with h2; subst h2
    have e := of_beq h1
    subst e
    cases hx with
    | iface hy =>
      rename_i y'
      refine ⟨if ok then .tuple #[y', .bool true] else y', ?_, ?_⟩
      · cases d <;> first | (exact (hn _ rfl).elim) | simp [Instr.typeAssert, run_underlying' hu]
      · cases ok
        · exact hy
        · exact .tuple (.cons hy (.cons (.bool _) .nil))
  · cases h

/-! All of them. -/
def stillK : Kd → Bool
  | .pure | .read => true
  | _ => false

theorem jst_some {st : St} {r : Option AV} {x : OpR} : jst st r = some x ↔ ∃ v, r = some v ∧ x = .val v st := by
  cases r <;> simp [jst, eq_comm]
theorem ptrR_some {v : AV} {f : Nat → Nat → Option OpR} {x : OpR} : ptrR v f = some x ↔ ∃ b o, v = .ptr b o ∧ f b o = some x := by
  cases v <;> simp only [ptrR, reduceCtorEq, false_and, exists_false, AV.ptr.injEq]
  constructor
  · intro h; exact ⟨_, _, ⟨rfl, rfl⟩, h⟩
  · rintro ⟨_, _, ⟨rfl, rfl⟩, h⟩; exact h
theorem ptrV_some {v : AV} {f : Nat → Nat → Option OpR} {g : List AV → Nat → Option OpR} {k : Nat → Nat → Option OpR} {x : OpR} : ptrV v f g k = some x ↔ (∃ b o, v = .ptr b o ∧ f b o = some x) ∨ (∃ l o, v = .vptr l o ∧ g l o = some x) ∨ ∃ b o, v = .gptr b o ∧ k b o = some x := by
  cases v <;> simp only [ptrV, reduceCtorEq, false_and, exists_false, or_self, false_or, or_false, AV.ptr.injEq, AV.vptr.injEq, AV.gptr.injEq]
  · constructor
    · intro h; exact ⟨_, _, ⟨rfl, rfl⟩, h⟩
    · rintro ⟨_, _, ⟨rfl, rfl⟩, h⟩; exact h
  · constructor
    · intro h; exact ⟨_, _, ⟨rfl, rfl⟩, h⟩
    · rintro ⟨_, _, ⟨rfl, rfl⟩, h⟩; exact h
  · constructor
    · intro h; exact ⟨_, _, ⟨rfl, rfl⟩, h⟩
    · rintro ⟨_, _, ⟨rfl, rfl⟩, h⟩; exact h
theorem arg1_some {as : List AV} {tys : List TypeId} {f : TypeId → AV → Option OpR} {x : OpR} (h : arg1 as tys f = some x) : ∃ a t l, as = [a] ∧ tys = t :: l ∧ f t a = some x := by
  unfold arg1 at h
  split at h
  · exact ⟨_, _, _, rfl, rfl, h⟩
  · cases h
theorem arg2_some {as : List AV} {tys : List TypeId} {f : TypeId → Option TypeId → AV → AV → Option OpR} {x : OpR} (h : arg2 as tys f = some x) : ∃ a b t l, as = [a, b] ∧ tys = t :: l ∧ f t l.head? a b = some x := by
  unfold arg2 at h
  split at h
  · exact ⟨_, _, _, _, rfl, rfl, h⟩
  · cases h
theorem argN_some {as : List AV} {f : AV → List AV → Option OpR} {x : OpR} (h : argN as f = some x) : ∃ a l, as = a :: l ∧ f a l = some x := by
  unfold argN at h
  split at h
  · exact ⟨_, _, rfl, h⟩
  · cases h
theorem says_val {w : World} {v : AV} {s : Sem Value} (h : Says P ρ w v s) : ∃ v', (do pure (Next.value (← s)) : Sem Next).run P w = .ok (.value v') w ∧ VR ρ v v' := by
  obtain ⟨v', h1, h2⟩ := h
  exact ⟨v', by simp [h1], h2⟩

theorem head_at {α : Type} {A : Array α} {t : α} {l : List α} (h : A.toList = t :: l) : A[0]? = some t := by
  rw [← Array.getElem?_toList, h]; rfl
theorem VRs.args {ev : Operand → Value} {args : Array Operand} {a : AV} {l : List AV} (h : VRs ρ (a :: l) (args.toList.map ev)) :
    ∃ (a' : Value) (l' : List Value), (args.map ev).toList = a' :: l' ∧ VR ρ a a' ∧ VRs ρ l l' := by
  rw [← Array.toList_map] at h
  generalize (args.map ev).toList = X at h
  cases h with
  | cons hv t => exact ⟨_, _, rfl, hv, t⟩

theorem builtin_still {T : Tr AV} {ev : Operand → Value} (hT : ∀ x a, opd T x = some a → VR ρ a (ev x)) {st : St} {w : World} (hH : HR ρ st w) {b : Builtin} (hb : b = .len ∨ b = .cap ∨ b = .min ∨ b = .max) {argTypes : Array TypeId} {args : Array Operand} {r : OpR}
    (h : builtinA P T st b argTypes.toList args.toList = some r) (ty : TypeId) (cs : Array Bool) : ∃ v, r = .val v st ∧ ∃ v', (builtin b argTypes ty cs (args.map ev)).run P w = .ok (.value v') w ∧ VR ρ v v' := by
  simp only [builtinA, ob_some] at h
  obtain ⟨as, h1, h⟩ := h
  have hs := opds_sound hT h1
  rcases hb with rfl | rfl | rfl | rfl
  · obtain ⟨a, t, l, rfl, ht, h⟩ := arg1_some h
    obtain ⟨v, h3, rfl⟩ := jst_some.1 h
    obtain ⟨a', l', e, ha, _⟩ := hs.args
    exact ⟨v, rfl, says_val (len_sound hH h3 ha (head_at ht) (head_at e))⟩
  · obtain ⟨a, t, l, rfl, ht, h⟩ := arg1_some h
    obtain ⟨v, h3, rfl⟩ := jst_some.1 h
    obtain ⟨a', l', e, ha, _⟩ := hs.args
    exact ⟨v, rfl, says_val (cap_sound h3 ha (head_at ht) (head_at e) w)⟩
  · obtain ⟨a, l, rfl, h⟩ := argN_some h
    obtain ⟨v, h3, rfl⟩ := jst_some.1 h
    obtain ⟨a', l', e, ha, hl⟩ := hs.args
    refine ⟨v, rfl, says_val ?_⟩
    unfold Builtin.min_
    rw [e]
    exact min_sound h3 ha hl w
  · obtain ⟨a, l, rfl, h⟩ := argN_some h
    obtain ⟨v, h3, rfl⟩ := jst_some.1 h
    obtain ⟨a', l', e, ha, hl⟩ := hs.args
    refine ⟨v, rfl, says_val ?_⟩
    unfold Builtin.max_
    rw [e]
    exact max_sound h3 ha hl w

theorem opdO_sound {T : Tr AV} {ev : Operand → Value} (hT : ∀ x a, opd T x = some a → VR ρ a (ev x)) {x : Option Operand} {r : Option AV} (h : opdO T x = some r) : OptR ρ r (x.map ev) := by
  cases x with
  | none => simp only [opdO] at h; injection h with h; subst h; exact .none
  | some x =>
    simp only [opdO, om_some] at h
    obtain ⟨a, h1, rfl⟩ := h
    exact .some (hT _ _ h1)

/-- What an operation that leaves the heap alone answers. -/
theorem still_sound {T : Tr AV} {ev : Operand → Value} (hT : ∀ x a, opd T x = some a → VR ρ a (ev x)) {st : St} {w : World} (hH : HR ρ st w) {o : Oper} {r : OpR}
    (h : aop P T st o.op = some r) (hk : stillK (kd o.op) = true) : ∃ v, r = .val v st ∧ ∃ v', (execOp ev o).run P w = .ok (.value v') w ∧ VR ρ v v' := by
  obtain ⟨dst, op, type, pos, after, guard⟩ := o
  dsimp only at h hk
  cases op <;> simp only [kd, stillK, Bool.false_eq_true] at hk <;> dsimp only [execOp] <;> simp only [aop, ob_some, jst_some, ifb_none, ptrR_some, ptrV_some, reduceCtorEq] at h
  case move x => obtain ⟨v, h1, rfl⟩ := h; exact ⟨v, rfl, _, rfl, hT _ _ h1⟩
  case assign x => obtain ⟨v, h1, rfl⟩ := h; exact ⟨v, rfl, _, rfl, hT _ _ h1⟩
  case pick c a b =>
    obtain ⟨cv, h1, h⟩ := h
    have hc := hT _ _ h1
    split at h
    · obtain ⟨v, h2, rfl⟩ := jst_some.1 h
      refine ⟨v, rfl, ev a, ?_, hT _ _ h2⟩
      generalize ev c = z at hc ⊢; cases hc; simp [asBool]
    · obtain ⟨v, h2, rfl⟩ := jst_some.1 h
      refine ⟨v, rfl, ev b, ?_, hT _ _ h2⟩
      generalize ev c = z at hc ⊢; cases hc; simp [asBool]
    · cases h
  case build t parts =>
    obtain ⟨ps, h1, v, h2, rfl⟩ := h
    refine ⟨v, rfl, says_val (build_sound ?_ h2 w)⟩
    have := opdPairs_sound hT h1
    simpa using this
  case load t a =>
    obtain ⟨av, h1, ⟨b, o, rfl, v, h2, rfl⟩ | ⟨l, o, rfl, v, h2, rfl⟩ | ⟨g, o, rfl, v, h2, rfl⟩⟩ := h
    · have ha := hT _ _ h1
      refine ⟨v, rfl, says_val ?_⟩
      generalize ev a = z at ha ⊢
      cases ha with
      | ptr hL =>
        obtain ⟨v', k1, k2⟩ := load_sound (P := P) hH h2 hL
        exact ⟨v', by simp [Instr.loadAt, Instr.sureAddr, k1], k2⟩
    · have ha := hT _ _ h1
      refine ⟨v, rfl, says_val ?_⟩
      generalize ev a = z at ha ⊢
      cases ha with
      | vptr hv hsc hm =>
        obtain ⟨v', k1, k2⟩ := loadPart_sound (P := P) hH h2 hv hm
        exact ⟨v', by simp [Instr.loadAt, Instr.sureAddr, k1], k2⟩
    · have ha := hT _ _ h1
      refine ⟨v, rfl, says_val ?_⟩
      generalize ev a = z at ha ⊢
      cases ha
      obtain ⟨v', k1, k2⟩ := loadGlob_sound (P := P) hH (ob_some.2 h2)
      exact ⟨v', by simp [Instr.loadAt, Instr.sureAddr, k1], k2⟩
  case nilCheck x =>
    obtain ⟨v, h1, h⟩ := h
    have ha := hT _ _ h1
    split at h <;> first | (cases h; done) | skip
    all_goals
      injection h with h
      refine ⟨_, h.symm, ev x, ?_, ha⟩
      generalize ev x = z at ha ⊢
      cases ha
      rfl
  case binOp op t x y yt =>
    obtain ⟨a, h1, b, h2, h3, v, h4, rfl⟩ := h
    refine ⟨v, rfl, says_val ?_⟩
    obtain ⟨v', k1, k2⟩ := bin_sound (P := P) h4 (hT _ _ h1) (hT _ _ h2) w
    exact ⟨v', by simp [guard_sound h3 (hT _ _ h1) (hT _ _ h2) w, k1], k2⟩
  case unOp op t x =>
    obtain ⟨a, h1, v, h2, rfl⟩ := h
    exact ⟨v, rfl, says_val (un_sound h2 (hT _ _ h1) w)⟩
  case convert s d x =>
    obtain ⟨a, h1, v, h2, rfl⟩ := h
    exact ⟨v, rfl, says_val (convert_sound hH h2 (hT _ _ h1))⟩
  case makeFunc fn first captured =>
    cases fn <;> simp only [aop, reduceCtorEq, ob_some] at h
    obtain ⟨a, h1, c, h2, h3⟩ := h
    injection h3 with h3
    refine ⟨_, h3.symm, _, rfl, ?_⟩
    have e1 := opds_sound hT h1
    have e2 := opds_sound hT h2
    rw [← Array.toList_map] at e1 e2
    exact .func e1 e2
  case slice t x lo hi mx =>
    obtain ⟨a, h1, l, h2, hh, h3, m, h4, v, h5, rfl⟩ := h
    exact ⟨v, rfl, says_val (slice_sound hH h5 (hT _ _ h1) (opdO_sound hT h2) (opdO_sound hT h3) (opdO_sound hT h4))⟩
  case fieldAddr s x f =>
    obtain ⟨a, h1, fd, h2, n, h3, h4⟩ := h
    rw [ifb_none', ptrV_some] at h4
    obtain ⟨h5, h4⟩ := h4
    obtain ⟨fs, hu, hf⟩ := fieldT_some h2
    have hn : n ≠ 0 := fun e => by subst e; cases h5
    have ha := hT _ _ h1
    rcases h4 with ⟨b, o, rfl, h6⟩ | ⟨l, o, rfl, h6⟩ | ⟨g, o, rfl, h6⟩
    · injection h6 with h6
      refine ⟨_, h6.symm, says_val ?_⟩
      generalize ev x = z at ha ⊢
      cases ha with
      | ptr hL =>
        rename_i L
        refine ⟨.pointer (some ⟨L.blk, L.off + (o + fd.offset), none⟩), ?_, .ptr hL⟩
        simp [Instr.fieldAt, run_underlying' hu, hf, Instr.sureAddr, fieldPlace, run_sizeOf' h3, hn, addr_add, Nat.add_assoc]
    · injection h6 with h6
      refine ⟨_, h6.symm, says_val ?_⟩
      generalize ev x = z at ha ⊢
      cases ha with
      | vptr hv hsc hm =>
        rename_i l' blk off
        refine ⟨.pointer (some ⟨blk, off + (o + fd.offset), none⟩), ?_, .vptr hv hsc hm⟩
        simp [Instr.fieldAt, run_underlying' hu, hf, Instr.sureAddr, fieldPlace, run_sizeOf' h3, hn, addr_add, Nat.add_assoc]
    · injection h6 with h6
      refine ⟨_, h6.symm, says_val ?_⟩
      generalize ev x = z at ha ⊢
      cases ha
      refine ⟨.pointer (some ⟨g, o + fd.offset, none⟩), ?_, .gptr⟩
      simp [Instr.fieldAt, run_underlying' hu, hf, Instr.sureAddr, fieldPlace, run_sizeOf' h3, hn, addr_add, Nat.add_assoc]
  case field s x f =>
    obtain ⟨a, h1, fd, h2, h⟩ := h
    split at h
    · obtain ⟨v, h3, rfl⟩ := jst_some.1 h
      obtain ⟨fs, hu, hf⟩ := fieldT_some h2
      have ha := hT _ _ h1
      refine ⟨v, rfl, says_val ?_⟩
      generalize ev x = z at ha ⊢
      cases ha with
      | agg hx =>
        obtain ⟨v', k1, k2⟩ := part_sound (P := P) h3 hx w
        exact ⟨v', by simp [Instr.field, run_underlying' hu, hf, asAgg, k1], k2⟩
    · cases h
  case indexAddr t x i =>
    obtain ⟨a, h1, b, h2, v, h3, rfl⟩ := h
    exact ⟨v, rfl, says_val (indexAddr_sound h3 (hT _ _ h1) (hT _ _ h2) w)⟩
  case index t x i =>
    obtain ⟨a, h1, b, h2, v, h3, rfl⟩ := h
    exact ⟨v, rfl, says_val (index_sound h3 (hT _ _ h1) (hT _ _ h2) w)⟩
  case lookup t x i ok =>
    obtain ⟨a, h1, b, h2, v, h3, rfl⟩ := h
    exact ⟨v, rfl, says_val (lookup_sound hH h3 (hT _ _ h1) (hT _ _ h2))⟩
  case makeInterface t x =>
    obtain ⟨a, h1, v, h2, rfl⟩ := h
    exact ⟨v, rfl, says_val (ifaceA_sound h2 (hT _ _ h1) w)⟩
  case typeAssert x xt t ok =>
    obtain ⟨a, h1, v, h2, rfl⟩ := h
    exact ⟨v, rfl, says_val (assertA_sound h2 (hT _ _ h1) w)⟩
  case extract t i =>
    obtain ⟨a, h1, h⟩ := h
    split at h
    · obtain ⟨v, h3, rfl⟩ := jst_some.1 h
      have ha := hT _ _ h1
      rw [nth_eq] at h3
      refine ⟨v, rfl, says_val ?_⟩
      generalize ev t = z at ha ⊢
      cases ha with
      | tuple hx =>
        obtain ⟨v', k1, k2⟩ := hx.get h3
        refine ⟨v', ?_, k2⟩
        simp [Instr.extract, k1]
    · cases h
  case call c =>
    obtain ⟨callee, args, argTypes⟩ := c
    cases callee <;> simp only [stillK, Bool.false_eq_true] at hk h
    rename_i b
    have hb : b = .len ∨ b = .cap ∨ b = .min ∨ b = .max := by cases b <;> simp_all [kd, stillK]
    obtain ⟨v, h1, v', h2, h3⟩ := builtin_still hT hH hb h type (args.map fun | .const _ => true | _ => false)
    exact ⟨v, h1, v', by simp [resolve, invoke]; exact h2, h3⟩

end Go.Det
