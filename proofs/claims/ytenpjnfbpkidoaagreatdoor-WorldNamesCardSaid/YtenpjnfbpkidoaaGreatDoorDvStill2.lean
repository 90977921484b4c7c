/- More operations that leave the heap alone. -/
import Derived.Test.YtenpjnfbpkidoaaGreatDoorDvStill
set_option linter.unusedVariables false
set_option linter.unusedSimpArgs false
namespace Go.Det
variable {P : Program} {ρ : Names}

theorem eqGuard_nil {op : BinOp} {t : TypeId} {x y : Operand} (h : isConstO x = true ∨ isConstO y = true) (w : World) : (eqGuard op t x y .nilIface .nilIface).run P w = .ok () w := by
  cases op <;> first
    | rfl
    | (rcases h with h | h
       · cases x <;> first | (cases h; done) | rfl
       · cases y <;> first | (cases h; done) | (cases x <;> rfl))
theorem guard_sound {op : BinOp} {t : TypeId} {x y : Operand} {a b : AV} {a' b' : Value} (h : guardOk P op t x y a b = true) (ha : VR ρ a a') (hb : VR ρ b b') (w : World) :
    (eqGuard op t x y a' b').run P w = .ok () w := by
  have key : isEq op = true → guardVals P t x y a b = true → (eqGuard op t x y a' b').run P w = .ok () w := by
    intro _ hg
    cases ha <;> cases hb
    case nilIface.nilIface => exact eqGuard_nil (by simpa [guardVals] using hg) w
    case agg.agg => exact run_eqGuard_agg w op t x y _ _ (by simpa [guardVals] using hg)
    all_goals (cases op <;> rfl)
  unfold guardOk at h
  cases he : isEq op with
  | true => rw [he, ifb_true] at h; exact key he h
  | false => cases op <;> first | rfl | (cases he)

theorem ltBytes_eq : ∀ (x y : List UInt8), ltBytes x y = Op.bytesLess x y
  | x, [] => by cases x <;> rfl
  | [], _ :: _ => rfl
  | a :: x, b :: y => by
    simp only [ltBytes, Op.bytesLess, ifb_eq]
    rw [ltBytes_eq x y]
    have h1 : (Nat.ble (Nat.succ a.toNat) b.toNat = true) ↔ a < b := by
      rw [Nat.ble_eq, UInt8.lt_iff_toNat_lt]; exact Iff.rfl
    have h2 : (Nat.beq a.toNat b.toNat = true) ↔ a = b := by
      rw [Nat.beq_eq, UInt8.toNat_inj]
    by_cases c : a < b
    · rw [if_pos (h1.2 c)]; simp [c]
    · rw [if_neg (fun h => c (h1.1 h))]
      by_cases d : a = b
      · rw [if_pos (h2.2 d)]; simp [d]
      · rw [if_neg (fun h => d (h2.1 h))]; simp [c, d]

theorem bin_sound {op : BinOp} {t : TypeId} {a b v : AV} {a' b' : Value} (h : binA P op t a b = some v) (ha : VR ρ a a') (hb : VR ρ b b') (w : World) : Says P ρ w v (binOp op t a' b') := by
  unfold binA at h
  split at h
  · rename_i k x k' y
    cases ha; cases hb
    cases hs : isShift op with
    | true => rw [hs, ifb_true] at h; exact shift_sound h t w
    | false =>
      rw [hs, ifb_false, ifb_none, eqKind_iff] at h
      obtain ⟨rfl, h⟩ := h
      exact binInt_sound hs h t w
  · rename_i x y
    cases ha; cases hb
    split at h
    · injection h with h; subst h
      exact ⟨.bool (x.toList == y.toList), by simp [binOp, Op.stringOp], by rw [eqBytes_eq, ByteArray.toList_eq, ByteArray.toList_eq]; exact .bool _⟩
    · injection h with h; subst h
      exact ⟨.bool !(x.toList == y.toList), by simp [binOp, Op.stringOp], by rw [eqBytes_eq, ByteArray.toList_eq, ByteArray.toList_eq]; exact .bool _⟩
    · injection h with h; subst h
      exact ⟨.bool (Op.bytesLess x.toList y.toList), by simp [binOp, Op.stringOp], by rw [ltBytes_eq, ByteArray.toList_eq, ByteArray.toList_eq]; exact .bool _⟩
    · injection h with h; subst h
      exact ⟨.bool (Op.bytesLess x.toList y.toList || x.toList == y.toList), by simp [binOp, Op.stringOp], by rw [ltBytes_eq, eqBytes_eq, ByteArray.toList_eq, ByteArray.toList_eq]; exact .bool _⟩
    · injection h with h; subst h
      exact ⟨.bool !(Op.bytesLess x.toList y.toList || x.toList == y.toList), by simp [binOp, Op.stringOp], by rw [ltBytes_eq, eqBytes_eq, ByteArray.toList_eq, ByteArray.toList_eq]; exact .bool _⟩
    · injection h with h; subst h
      exact ⟨.bool !(Op.bytesLess x.toList y.toList), by simp [binOp, Op.stringOp], by rw [ltBytes_eq, ByteArray.toList_eq, ByteArray.toList_eq]; exact .bool _⟩
    · rw [ifb_none] at h
      obtain ⟨hb, h⟩ := h
      injection h with h; subst h
      have hb := of_ble hb
      have hs : x.size + y.size ≤ 9223372036854775807 := by
        have e1 : x.data.toList.length = x.size := by simp
        have e2 : y.data.toList.length = y.size := by simp
        rw [← e1, ← e2]; exact hb
      have e : (⟨⟨x.data.toList ++ y.data.toList⟩⟩ : ByteArray) = x ++ y := by
        apply ByteArray.ext
        simp
      rw [e]
      refine ⟨.string (x ++ y), ?_, .str _⟩
      have hm : IntKind.i64.max = 9223372036854775807 := by decide
      have : ¬ (((x.size + y.size : Nat) : Int) > IntKind.i64.max) := by rw [hm]; generalize x.size + y.size = z at hs ⊢; omega
      simp only [binOp, Op.stringOp]
      rw [if_neg this]
      rfl
    · cases h
  · rename_i n1 n2
    have key : ∀ (r : Bool), eqA P 10000 t a b = some r → (binOp .eql t a' b').run P w = .ok (.bool r) w ∧ (binOp .neq t a' b').run P w = .ok (.bool !r) w := by
      intro r hr
      have hq := eq_sound w 10000 t a b a' b' r hr ha hb
      have e1 : binOp .eql t a' b' = (do pure (.bool (← Op.equal t a' b'))) ∧ binOp .neq t a' b' = (do pure (.bool (!(← Op.equal t a' b')))) := by
        cases ha <;> cases hb <;> first
          | exact ⟨rfl, rfl⟩
          | exact absurd rfl (n1 _ _ _ _ rfl)
          | exact absurd rfl (n2 _ _ rfl)
      rw [e1.1, e1.2]
      constructor <;> simp [Op.equal, Op.maxDepth, hq]
    split at h
    · rw [om_some] at h; obtain ⟨r, hr, rfl⟩ := h; exact ⟨_, (key r hr).1, .bool _⟩
    · rw [om_some] at h; obtain ⟨r, hr, rfl⟩ := h; exact ⟨_, (key r hr).2, .bool _⟩
    · cases h

theorem un_sound {op : UnOp} {a v : AV} {a' : Value} (h : unA op a = some v) (ha : VR ρ a a') (w : World) : Says P ρ w v (Op.unary op a') := by
  unfold unA at h
  split at h
  · rename_i k n
    cases ha; injection h with h; subst h
    exact ⟨.int k (k.wrap (0 - n)), by simp [Op.unary, Op.intArith], by rw [wrapF_eq]; exact .int _ _⟩
  · rename_i k n
    cases ha
    obtain ⟨v', h1, h2⟩ := binInt_sound (P := P) (ρ := ρ) (op := .xor) rfl h 0 w
    refine ⟨v', ?_, h2⟩
    rw [← h1]
    cases k <;> simp [Op.unary, binOp, IntKind.signed, IntKind.max, IntKind.bits]
  · cases ha; injection h with h; subst h
    exact ⟨_, rfl, .bool _⟩
  · cases h

/-! Slices. -/
theorem natIn_sound {v : AV} {v' : Value} {y n y' : Nat} (h : natIn v y = some n) (hv : VR ρ v v') (hy : y ≤ y') (code : BoundsCode) (w : World) : (Instr.sliceBound v' y' code).run P w = .ok n w ∧ n ≤ y := by
  unfold natIn at h
  split at h
  · cases hv
    rw [ifb_none] at h
    obtain ⟨h1, h2⟩ := h
    injection h2 with h2; subst h2
    have := of_ble h1
    refine ⟨?_, this⟩
    simp [Instr.sliceBound, asIntOf]
    omega
  · cases h

inductive OptR (ρ : Names) : Option AV → Option Value → Prop where
  | none : OptR ρ none none
  | some {v : AV} {v' : Value} (h : VR ρ v v') : OptR ρ (some v) (some v')

theorem bounds_sound {len cap cap' : Nat} {lo hi mx : Option AV} {lo' hi' mx' : Option Value} {q : Bnd} (h : boundsA len cap lo hi mx = some q) (hlo : OptR ρ lo lo') (hhi : OptR ρ hi hi') (hmx : OptR ρ mx mx')
    (hlen : len ≤ cap) (hcap : cap ≤ cap') (b : Bool) (w : World) :
    ∃ m', (Instr.sliceBounds b len cap' lo' hi' mx').run P w = .ok (q.l, q.h, m') w ∧ q.l ≤ q.h ∧ q.h ≤ q.m ∧ q.m ≤ m' ∧ m' ≤ cap' ∧ ((mx = none ∧ cap' ≠ cap) ∨ m' = q.m) := by
  simp only [boundsA, ob_some, om_some] at h
  obtain ⟨m, h1, hh, h2, l, h3, rfl⟩ := h
  have hm : ∃ m', (match mx' with | some v => Instr.sliceBound v cap' (if b then .slice3Acap else .slice3Alen) | none => pure cap').run P w = .ok m' w ∧ m ≤ m' ∧ m' ≤ cap' ∧ ((mx = none ∧ cap' ≠ cap) ∨ m' = m) := by
    cases hmx with
    | none => injection h1 with h1; subst h1; exact ⟨cap', rfl, hcap, Nat.le_refl _, by by_cases c : cap' = cap <;> simp [c]⟩
    | some hv =>
      have := fun code => natIn_sound (P := P) h1 hv hcap code w
      exact ⟨m, (this _).1, Nat.le_refl _, Nat.le_trans (this .index).2 hcap, .inr rfl⟩
  obtain ⟨m', k1, k2, k3, k4⟩ := hm
  have hhm : (match hi', mx' with
      | some v, some _ => Instr.sliceBound v m' .slice3B
      | some v, none => Instr.sliceBound v m' (if b then .sliceAcap else .sliceAlen)
      | none, none => pure len
      | none, some _ => stuck "Slice: max without high").run P w = .ok hh w ∧ hh ≤ m := by
    cases hhi with
    | none =>
      cases hmx with
      | none => injection h1 with h1; subst h1; injection h2 with h2; subst h2; exact ⟨rfl, hlen⟩
      | some hv => cases h2
    | some hv =>
      have := fun code => natIn_sound (P := P) h2 hv k2 code w
      cases hmx <;> exact ⟨(this _).1, (this .index).2⟩
  have hl : (match lo' with | some v => Instr.sliceBound v hh (if mx'.isSome then .slice3C else .sliceB) | none => pure 0).run P w = .ok l w ∧ l ≤ hh := by
    cases hlo with
    | none => injection h3 with h3; subst h3; exact ⟨rfl, Nat.zero_le _⟩
    | some hv =>
      have := fun code => natIn_sound (P := P) h3 hv (Nat.le_refl _) code w
      exact ⟨(this _).1, (this .index).2⟩
  refine ⟨m', ?_, hl.2, hhm.2, k2, k3, k4⟩
  have hl1 := hl.1
  have hh1 := hhm.1
  clear hl hhm h1 h2 h3 k2 k3 k4
  unfold Instr.sliceBounds
  cases hmx <;> cases hhi <;> cases hlo <;> simp only [Sem.run_pure, run_stuck, Result.ok.injEq, and_true, reduceCtorEq, Option.isSome_some, Option.isSome_none, if_true, Bool.false_eq_true, if_false] at k1 hh1 hl1 <;>
    simp [k1, hh1, hl1]

theorem addr_ite (b o m l n : Nat) (h : m ≠ l) : (if m = l then (⟨b, o, none⟩ : Addr) else (⟨b, o, none⟩ : Addr).add (l * n)) = ⟨b, o + l * n, none⟩ := by rw [if_neg h, addr_add]

theorem slice_sound {st : St} {w : World} (hH : HR ρ st w) {t : TypeId} {x v : AV} {x' : Value} {lo hi mx : Option AV} {lo' hi' mx' : Option Value} (h : sliceOpA P st t x lo hi mx = some v)
    (hx : VR ρ x x') (hlo : OptR ρ lo lo') (hhi : OptR ρ hi hi') (hmx : OptR ρ mx mx') : Says P ρ w v (Instr.sliceAt t x' lo' hi' mx') := by
  unfold sliceOpA at h
  split at h
  · rename_i elem b o len cap ex e hu
    simp only [ob_some, ifb_none] at h
    obtain ⟨q, h1, n, h2, h3, h4⟩ := h
    injection h4 with h4; subst h4
    have hne : n = e := of_beq h3
    subst hne
    cases hx with
    | slice hL hlen hcap hex hA =>
      rename_i L a cap'
      obtain ⟨m', k1, k2, k3, k4, k5, k6⟩ := bounds_sound (P := P) h1 hlo hhi hmx hlen hcap true w
      refine ⟨.slice (if m' = q.l then some a else (some a).map (·.add (q.l * n))) (q.h - q.l) (m' - q.l), ?_, ?_⟩
      · simp [Instr.sliceAt, run_underlying' hu, Instr.slice, k1, run_sizeOf' h2]
      · have hs : (if m' = q.l then some a else (some a).map (·.add (q.l * n))) = some (if m' = q.l then a else a.add (q.l * n)) := by split <;> rfl
        rw [hs]
        refine .slice hL (by show q.h - q.l ≤ q.m - q.l; omega) (by show q.m - q.l ≤ m' - q.l; omega) ?_ ?_
        · intro he
          rcases k6 with ⟨rfl, hc⟩ | k6
          · simp at he; exact absurd (hex he) hc
          · show m' - q.l = q.m - q.l; rw [k6]
        · by_cases c : m' = q.l
          · left; omega
          · right
            rcases hA with hA | ⟨rfl, hB⟩
            · omega
            · rw [addr_ite _ _ _ _ _ c]
              refine ⟨by show _ = (⟨L.blk, L.off + (o + q.l * n), none⟩ : Addr); rw [Nat.add_assoc], ?_⟩
              show L.off + (o + q.l * n) + (m' - q.l) * n ≤ L.tot
              have : q.l * n + (m' - q.l) * n = m' * n := by rw [← Nat.add_mul]; congr 1; omega
              have : m' * n ≤ cap' * n := Nat.mul_le_mul_right _ k5
              omega
  · rename_i elem hu
    simp only [ob_some, om_some] at h
    obtain ⟨n, hn, q, h1, rfl⟩ := h
    cases hx
    obtain ⟨m', k1, k2, k3, k4, k5, k6⟩ := bounds_sound (P := P) h1 hlo hhi hmx (Nat.le_refl _) (Nat.le_refl _) true w
    have : q.l = 0 ∧ q.h = 0 ∧ m' = 0 := by omega
    refine ⟨.slice none 0 0, ?_, .nilSlice⟩
    simp [Instr.sliceAt, run_underlying' hu, Instr.slice, k1, run_sizeOf' hn, this.1, this.2.1, this.2.2]
  · rename_i elem l len cap ex own e hu
    simp only [ob_some, ifb_none, om_some, Bool.and_eq_true] at h
    obtain ⟨q, h1, n, h2, ⟨h3, h4⟩, l2, h5, rfl⟩ := h
    have hne : n = e := of_beq h3
    subst hne
    have hql : q.h ≤ len := of_ble h4
    cases hx with
    | vs hv hs hl hlen hcap hex hA hO =>
      rename_i l' a cap' blk off
      obtain ⟨m', k1, k2, k3, k4, k5, k6⟩ := bounds_sound (P := P) h1 hlo hhi hmx hlen hcap true w
      obtain ⟨s1, s2, s3⟩ := sub_some h5
      have hsl : allScalar l2 = true := by
        rw [allScalar_iff] at *
        intro u hu'
        rw [s2] at hu'
        exact hs u (List.mem_of_mem_drop (List.mem_of_mem_take hu'))
      have hv2 : VRs ρ l2 ((l'.drop (q.l * n)).take ((q.h - q.l) * n)) := by rw [s2]; exact (hv.drop _).take _
      have hget : ∀ (i : Nat) (v' : Value), ((l'.drop (q.l * n)).take ((q.h - q.l) * n))[i]? = some v' → l'[q.l * n + i]? = some v' := by
        intro i v' hi
        rcases Nat.lt_or_ge i ((q.h - q.l) * n) with hlt | hge
        · rw [List.getElem?_take_of_lt hlt, List.getElem?_drop] at hi; exact hi
        · rw [List.getElem?_eq_none (by rw [List.length_take]; omega)] at hi; cases hi
      refine ⟨.slice (if m' = q.l then some a else (some a).map (·.add (q.l * n))) (q.h - q.l) (m' - q.l), ?_, ?_⟩
      · simp [Instr.sliceAt, run_underlying' hu, Instr.slice, k1, run_sizeOf' h2]
      · have hs : (if m' = q.l then some a else (some a).map (·.add (q.l * n))) = some (if m' = q.l then a else a.add (q.l * n)) := by split <;> rfl
        rw [hs]
        refine .vs (blk := blk) (off := off + q.l * n) hv2 hsl s3 (by show q.h - q.l ≤ q.m - q.l; omega) (by show q.m - q.l ≤ m' - q.l; omega) ?_ ?_ (fun b hb => by cases hb)
        · intro he
          rcases k6 with ⟨rfl, hc⟩ | k6
          · simp at he; exact absurd (hex he) hc
          · show m' - q.l = q.m - q.l; rw [k6]
        · by_cases c : m' = q.l
          · left; omega
          · right
            rcases hA with hA | ⟨rfl, hm⟩
            · omega
            · rw [if_neg c, addr_add]
              exact ⟨rfl, fun i v' hi => by rw [Nat.add_assoc]; exact hm _ _ (hget _ _ hi)⟩
    | vsNil =>
      obtain ⟨m', k1, k2, k3, k4, k5, k6⟩ := bounds_sound (P := P) h1 hlo hhi hmx (Nat.le_refl _) (Nat.le_refl _) true w
      have hz : q.l = 0 ∧ q.h = 0 ∧ m' = 0 := by omega
      obtain ⟨s1, s2, s3⟩ := sub_some h5
      obtain rfl : l2 = [] := List.length_eq_zero_iff.1 (by rw [s3, hz.1, hz.2.1]; simp)
      have e1 : Nat.sub q.h q.l = 0 := by show q.h - q.l = 0; omega
      have e2 : Nat.sub q.m q.l = 0 := by show q.m - q.l = 0; omega
      refine ⟨.slice none 0 0, ?_, by rw [e1, e2]; exact .vsNil⟩
      simp [Instr.sliceAt, run_underlying' hu, Instr.slice, k1, run_sizeOf' h2, hz.1, hz.2.1, hz.2.2]
  · rename_i k elem b o hu
    simp only [ob_some, ifb_none] at h
    obtain ⟨q, h1, n, h2, r, h3, h4, h5⟩ := h
    injection h5 with h5; subst h5
    cases hx with
    | ptr hL =>
      rename_i L
      obtain ⟨m', k1, k2, k3, k4, k5, k6⟩ := bounds_sound (P := P) h1 hlo hhi hmx (Nat.le_refl _) (Nat.le_refl _) false w
      have k7 : m' = q.m := by rcases k6 with ⟨_, hc⟩ | h; exact absurd rfl hc; exact h
      subst k7
      obtain ⟨L', hL', hO⟩ := hH.obj _ _ (rowOf_some.1 h3)
      obtain rfl : L' = L := by rw [hL] at hL'; injection hL' with h; exact h.symm
      obtain ⟨arr, e, lo0, hi0, r1, r2, r3, _⟩ := hO
      have h4' := of_ble h4
      refine ⟨.slice (some (if q.m = q.l then ⟨L'.blk, L'.off + o, none⟩ else (⟨L'.blk, L'.off + o, none⟩ : Addr).add (q.l * n))) (q.h - q.l) (q.m - q.l), ?_, ?_⟩
      · simp [Instr.sliceAt, run_underlying' hu, Instr.sureAddr, k1, run_sizeOf' h2]
      · refine .slice hL (by show q.h - q.l ≤ q.m - q.l; omega) (Nat.le_refl _) (fun _ => rfl) ?_
        by_cases c : q.m = q.l
        · left; show q.m - q.l = 0; omega
        · right
          rw [addr_ite _ _ _ _ _ c]
          refine ⟨by show _ = (⟨L'.blk, L'.off + (o + q.l * n), none⟩ : Addr); rw [Nat.add_assoc], ?_⟩
          show L'.off + (o + q.l * n) + (q.m - q.l) * n ≤ L'.tot
          have e1 : q.l * n + (q.m - q.l) * n = q.m * n := by rw [← Nat.add_mul]; congr 1; omega
          have e2 : q.m * n ≤ k * n := Nat.mul_le_mul_right _ k5
          have : o + k * n ≤ r.1.length := h4'
          omega
  · rename_i s hu
    cases hx
    split at h
    · cases h
    · rw [om_some] at h
      obtain ⟨q, h1, rfl⟩ := h
      cases hmx
      obtain ⟨m', k1, k2, k3, k4, k5, k6⟩ := bounds_sound (P := P) h1 hlo hhi .none (Nat.le_refl _) (Nat.le_refl _) false w
      refine ⟨.string (s.extract q.l q.h), ?_, .str _⟩
      simp [Instr.sliceAt, run_underlying' hu, Instr.slice, k1]
  · cases h

end Go.Det
