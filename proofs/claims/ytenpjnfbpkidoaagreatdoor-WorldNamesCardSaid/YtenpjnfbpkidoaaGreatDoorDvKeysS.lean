/- slices.Sorted(maps.Keys(m)) at string keys: from the library's contract to the machine's table (turned from DetKeys by keys_s.py). -/
import Derived.Test.YtenpjnfbpkidoaaGreatDoorDvKeys
import Derived.Sort.KeysCollected
set_option linter.unusedVariables false
set_option linter.unusedSimpArgs false
namespace Go.Det
open Go.MapKept Go.Maps Go.WideElems Go.RowKit
open Go.Proofs (encStr)
variable {P : Program}

/-- Sorted, by putting one in after the other. -/
noncomputable def leBB : List UInt8 → List UInt8 → Bool
  | [], _ => true
  | _ :: _, [] => false
  | a :: x, b :: y => ifb (Nat.beq a.toNat b.toNat) (leBB x y) (Nat.ble a.toNat b.toNat)
theorem leBB_iff : ∀ {x y : List UInt8}, leBB x y = true ↔ x ≤ y
  | [], y => by simp [leBB]
  | a :: x, [] => by simp [leBB]
  | a :: x, b :: y => by
    simp only [leBB, ifb_eq]
    rw [List.cons_le_cons_iff]
    by_cases c : a = b
    · subst c
      rw [if_pos (beq_t rfl), leBB_iff]
      constructor
      · intro h; exact .inr ⟨rfl, h⟩
      · rintro (h | ⟨_, h⟩)
        · exact absurd h (by simp)
        · exact h
    · have c' : a.toNat ≠ b.toNat := fun h => c (UInt8.toNat_inj.1 h)
      rw [if_neg (fun h => c' (of_beq h))]
      constructor
      · intro h
        have := of_ble h
        exact .inl (UInt8.lt_iff_toNat_lt.2 (by omega))
      · rintro (h | ⟨h, _⟩)
        · have := UInt8.lt_iff_toNat_lt.1 h
          exact ble_t (by omega)
        · exact absurd h c
noncomputable def putS (x : List UInt8) : List (List UInt8) → List (List UInt8)
  | [] => [x]
  | y :: l => ifb (leBB x y) (x :: y :: l) (y :: putS x l)
noncomputable def sortS : List (List UInt8) → List (List UInt8)
  | [] => []
  | x :: l => putS x (sortS l)
theorem putS_perm (x : List UInt8) : ∀ l : List (List UInt8), (putS x l).Perm (x :: l)
  | [] => .refl _
  | y :: l => by
    simp only [putS, ifb_eq]
    split
    · exact .refl _
    · exact ((putS_perm x l).cons y).trans (.swap x y l)
theorem putS_sorted (x : List UInt8) : ∀ l : List (List UInt8), l.Pairwise (· ≤ ·) → (putS x l).Pairwise (· ≤ ·)
  | [], _ => by simp [putS]
  | y :: l, h => by
    simp only [putS, ifb_eq]
    obtain ⟨h1, h2⟩ := List.pairwise_cons.1 h
    split
    · rename_i c
      have c' := leBB_iff.1 c
      refine List.pairwise_cons.2 ⟨fun z hz => ?_, h⟩
      rcases List.mem_cons.1 hz with rfl | hz
      · exact c'
      · exact List.le_trans c' (h1 z hz)
    · rename_i c
      have c' : y ≤ x := by
        rcases List.le_total x y with h | h
        · exact absurd (leBB_iff.2 h) c
        · exact h
      refine List.pairwise_cons.2 ⟨fun z hz => ?_, putS_sorted x l h2⟩
      rcases List.mem_cons.1 ((putS_perm x l).mem_iff.1 hz) with rfl | hz
      · exact c'
      · exact h1 z hz
theorem sortS_perm : ∀ l : List (List UInt8), (sortS l).Perm l
  | [] => .refl _
  | x :: l => (putS_perm x _).trans ((sortS_perm l).cons x)
theorem sortS_sorted : ∀ l : List (List UInt8), (sortS l).Pairwise (· ≤ ·)
  | [] => .nil
  | x :: l => putS_sorted x _ (sortS_sorted l)
theorem sortS_eq (l : List (List UInt8)) : sortS l = l.mergeSort leB := by
  have tr : ∀ a b c : List UInt8, leB a b = true → leB b c = true → leB a c = true := fun a b c h1 h2 => by simp only [leB, decide_eq_true_eq] at *; exact List.le_trans h1 h2
  have to : ∀ a b : List UInt8, (leB a b || leB b a) = true := fun a b => by simp only [leB, Bool.or_eq_true, decide_eq_true_eq]; exact List.le_total a b
  refine List.Perm.eq_of_pairwise (le := fun a b => leB a b = true) (fun a b _ _ h1 h2 => ?_) ((sortS_sorted l).imp fun h => by simpa [leB] using h) (List.pairwise_mergeSort tr to l) ((sortS_perm l).trans (List.mergeSort_perm l leB).symm)
  simp only [leB, decide_eq_true_eq] at h1 h2
  exact List.le_antisymm h1 h2

/-! The entries. -/
noncomputable def keysS : List AEntry → Option (List (List UInt8))
  | [] => some []
  | e :: l => match e.key with
    | .str x => ifb (Nat.ble x.size 1000000) (om (x.data.toList :: ·) (keysS l)) none
    | _ => none
noncomputable def eqL : List UInt8 → List UInt8 → Bool
  | [], [] => true
  | a :: x, b :: y => and (Nat.beq a.toNat b.toNat) (eqL x y)
  | _, _ => false
theorem eqL_self : ∀ x : List UInt8, eqL x x = true
  | [] => rfl
  | a :: x => by simp only [eqL, Bool.and_eq_true]; exact ⟨beq_t rfl, eqL_self x⟩
noncomputable def notInS (x : List UInt8) : List (List UInt8) → Bool
  | [] => true
  | y :: l => ifb (eqL x y) false (notInS x l)
noncomputable def nodupS : List (List UInt8) → Bool
  | [] => true
  | x :: l => and (notInS x l) (nodupS l)
theorem notInS_sound {x : List UInt8} : ∀ {l : List (List UInt8)}, notInS x l = true → x ∉ l
  | [], _ => by simp
  | y :: l, h => by
    simp only [notInS, ifb_eq] at h
    split at h
    · cases h
    · rename_i c
      intro hm
      rcases List.mem_cons.1 hm with rfl | hm
      · exact c (eqL_self _)
      · exact notInS_sound h hm
theorem nodupS_sound : ∀ {l : List (List UInt8)}, nodupS l = true → l.Nodup
  | [], _ => .nil
  | x :: l, h => by
    simp only [nodupS, Bool.and_eq_true] at h
    exact List.nodup_cons.2 ⟨notInS_sound h.1, nodupS_sound h.2⟩

theorem entries_fitS {ρ : Names} {tk : TypeId} (htk : P.underlying tk = some .string) : ∀ {es : List AEntry} {es' : List MapEntry} {ks : List (List UInt8)}, ERs ρ es es' → keysS es = some ks →
    es'.map (·.key) = ks.map encStr ∧ es'.map (·.born) = es.map (·.born) ∧ es'.length = es.length ∧ (∀ x ∈ es', ∃ y, rd P tk anyR x = some y) ∧ (es'.map (rg P tk anyR)).map (fun p => strOf p.1) = ks
  | [], _, ks, .nil, h => by
    injection h with h; subst h; simp
  | ⟨k, v, n⟩ :: es, _, ks, .cons (k' := k') (v' := v') hk hv t, h => by
    unfold keysS at h
    dsimp only at h
    split at h
    · rename_i x
      cases hk
      rw [ifb_none, om_some] at h
      obtain ⟨hb, ks1, h1, rfl⟩ := h
      have b1 := of_ble hb
      obtain ⟨i1, i2, i3, i4, i5⟩ := entries_fitS htk t h1
      have hr : rd P tk anyR ⟨.string x, v', n⟩ = some (.string x.data.toList, .nil) := by
        unfold rd
        rw [Go.WideMaps.keyOf_string_mk htk (by unfold maxLen; omega)]; rfl
      refine ⟨by simp [i1, encStr], by simp [i2], by simp [i3], ?_, ?_⟩
      · intro e he
        rcases List.mem_cons.1 he with rfl | he
        · exact ⟨_, hr⟩
        · exact i4 e he
      · rw [List.map_cons, List.map_cons, i5]
        unfold rg
        rw [hr]; rfl
    · cases h

/-- What the library's contracts say of the call. -/
structure KeysSortedS (P : Program) (fS g tk : Nat) : Prop where
  full : ∀ (bx b nn : Nat) (D0 : DataW Unit) (w : World), bx < w.heap.size → w.cell? ⟨bx, 0, none⟩ = some (.map (some b)) → w.ownsMap P tk anyR b nn D0 → Maps.size D0 ≤ maxLen → Maps.size D0 * 16 ≤ 140737488355328 →
    Calls P fS #[.func (.func g) #[] #[.pointer (some ⟨bx, 0, none⟩)]] w fun e w' => ∃ (v : Value) (ss : List (List UInt8)), e = .returned v ∧ ss.Perm (strKeys D0) ∧ w'.ownsRow w.heap.size tk 1 v ss.length ((ss.mergeSort fun x y => decide (x ≤ y)).map encStr) ∧ (v = .slice none 0 0 ↔ ss = []) ∧ Below w.heap.size w w'
  none_ : ∀ (bx : Nat) (w : World), bx < w.heap.size → w.cell? ⟨bx, 0, none⟩ = some (.map none) →
    Calls P fS #[.func (.func g) #[] #[.pointer (some ⟨bx, 0, none⟩)]] w fun e w' => e = .returned (.slice none 0 0) ∧ Below w.heap.size w w'

noncomputable def sortedTS (g tk : Nat) (args : List AV) (st : St) : Option (AV × St) :=
  match args with
  | [.func f [] [.ptr bx o]] => ifb (and (Nat.beq f g) (Nat.beq o 0)) (ob (st.heap.get bx) fun ob1 => (match ob1 with
    | .row [.nilMap] _ => some (.nilSlice, st)
    | .row [.map mb] _ => ob (st.heap.get mb) fun ob2 => (match ob2 with
      | .map es c => ob (keysS es) fun ks =>
        ifb (and (Nat.ble es.length 1000000) (and (bornOk c es) (and (nodupN (es.map (·.born))) (nodupS ks))))
          (match sortS ks with
           | [] => some (.nilSlice, st)
           | l => some (.slice st.next 0 ks.length ks.length false 1, st.new (.row (l.map fun b => AV.str ⟨b.toArray⟩) tk))) none
      | _ => none)
    | _ => none)) none
  | _ => none

theorem sortedTS_ok {fS g tk : Nat} (hk : KeysSortedS P fS g tk) (htk : P.underlying tk = some .string) (hen : ∀ (X : Array Value) (w : World), (callFunc fS X).run P w = .ok (.enter fS X) w) {args : List AV} {st st' : St} {v : AV}
    (h : sortedTS g tk args st = some (v, st')) : CallS P fS args st v st' := by
  refine CallS.of_calls hen fun ρ w args' hH hA => ?_
  unfold sortedTS at h
  split at h
  case h_2 => cases h
  rename_i f bx o
  rw [ifb_none, Bool.and_eq_true] at h
  obtain ⟨⟨hf, ho⟩, h⟩ := h
  obtain rfl : f = g := of_beq hf
  obtain rfl : o = 0 := of_beq ho
  rw [ob_some] at h
  obtain ⟨o1, h1, h⟩ := h
  cases hA with
  | cons hv hA =>
  cases hA
  cases hv with
  | func ha hc =>
  cases ha
  cases hc with
  | cons hp hc =>
  cases hc
  cases hp with
  | ptr hL =>
  rename_i L
  obtain ⟨L', hL', hO⟩ := hH.obj _ _ h1
  rw [hL] at hL'; injection hL' with hL'; subst hL'
  have hlt := (hH.lt _ _ hL).2
  split at h
  · -- the nil map
    injection h with h; injection h with h2 h3; subst h2; subst h3
    obtain ⟨h0, v', hc, hv⟩ := box_cell hO
    cases hv
    rw [h0]
    refine (hk.none_ L.blk w hlt hc).mono ?_
    rintro e w' ⟨rfl, hb⟩
    obtain ⟨a, c⟩ := hH.beside hb
    exact ⟨ρ, _, rfl, c, a, .nilSlice⟩
  · rename_i mb te
    rw [ob_some] at h
    obtain ⟨o2, h2, h⟩ := h
    obtain ⟨h0, v', hc, hv⟩ := box_cell hO
    split at h
    case h_2 => cases h
    rename_i es c
    rw [ob_some] at h
    obtain ⟨ks, h3, h⟩ := h
    rw [ifb_none] at h
    obtain ⟨h4, h⟩ := h
    simp only [Bool.and_eq_true] at h4
    obtain ⟨g1, g2, g3, g4⟩ := h4
    cases hv with
    | map hm =>
    rename_i Lm
    obtain ⟨Lm', hm', hOm⟩ := hH.obj _ _ h2
    rw [hm] at hm'; injection hm' with hm'; subst hm'
    obtain ⟨es', hb, hE⟩ := hOm
    obtain ⟨i1, i2, i3, i4, i5⟩ := entries_fitS htk hE h3
    have hlen : es.length ≤ 1000000 := of_ble g1
    let D0 : DataW Unit := .map ((es'.map (rg P tk anyR)).foldr DataW.insert [])
    have hown : w.ownsMap P tk anyR Lm.blk es'.length D0 := by
      refine ⟨⟨es'⟩, c, hb, ⟨?_, ⟨?_, ?_, ?_⟩, i4⟩, Nat.le_refl _, rfl⟩
      · show es'.length ≤ maxLen
        rw [i3]; unfold maxLen; omega
      · intro x hx
        have : x.born ∈ es'.map (·.born) := List.mem_map.2 ⟨x, hx, rfl⟩
        rw [i2] at this
        exact bornOk_sound g2 _ this
      · show (es'.map (·.born)).Nodup
        rw [i2]; exact nodupN_sound g3
      · show (es'.map (·.key)).Nodup
        rw [i1]
        exact List.pairwise_map.2 ((nodupS_sound g4).imp fun hne e => hne (encStr_inj e))
    have hpk : (strKeys D0).Perm ks := by
      show (((es'.map (rg P tk anyR)).foldr DataW.insert []).map fun p => strOf p.1).Perm ks
      exact ((Go.WideShapes.sorted_perm _).map _).trans (by rw [i5])
    have hsz : Maps.size D0 = ks.length := by
      have := hpk.length_eq
      rw [← this]
      show ((es'.map (rg P tk anyR)).foldr DataW.insert []).length = (((es'.map (rg P tk anyR)).foldr DataW.insert []).map fun p => strOf p.1).length
      rw [List.length_map]
    have hkl : ks.length = es.length := by
      have := congrArg List.length i1
      simp only [List.length_map] at this
      omega
    rw [h0]
    refine (hk.full L.blk Lm.blk es'.length D0 w hlt hc hown (by rw [hsz, hkl]; unfold maxLen; omega) (by rw [hsz, hkl]; omega)).mono ?_
    rintro e w' ⟨v', ss, rfl, hperm, hrow, hnil, hbel⟩
    have hsp : ss.Perm ks := hperm.trans hpk
    have hss : (ss.mergeSort fun x y => decide (x ≤ y)) = sortS ks := by rw [sortS_eq]; exact mergeSort_of_perm hsp
    have hsl : ss.length = ks.length := hsp.length_eq
    rw [hss] at hrow
    split at h
    · rename_i hs
      injection h with h; injection h with h5 h6; subst h5; subst h6
      have : ss = [] := by
        have := hss
        rw [hs] at this
        have hl := (List.mergeSort_perm ss (fun x y => decide (x ≤ y))).length_eq
        rw [this] at hl
        exact List.length_eq_zero_iff.1 hl.symm
      obtain rfl := hnil.2 this
      obtain ⟨a, c⟩ := hH.beside hbel
      exact ⟨ρ, _, rfl, c, a, .nilSlice⟩
    · rename_i l hs
      injection h with h; injection h with h5 h6; subst h5; subst h6
      obtain ⟨hxs, hrow⟩ := hrow
      rcases hrow with ⟨rfl, hz⟩ | ⟨gb, cap, cur, rfl, q1, q2, q3, q4, q5, q6⟩
      · exfalso
        have : ss = [] := hnil.1 rfl
        rw [this] at hsp
        have : ks = [] := hsp.symm.eq_nil
        subst this
        exact hs rfl
      · have hgl : gb < w'.heap.size := by
          rcases Nat.lt_or_ge gb w'.heap.size with h | h
          · exact h
          · rw [Array.getElem?_eq_none h] at q2; cases q2
        let L2 : Loc := ⟨gb, 0, cur.size⟩
        have hlen2 : (sortS ks).length = ks.length := (sortS_perm ks).length_eq
        obtain ⟨a, c⟩ := hH.name hbel (.row ((sortS ks).map (fun b => AV.str ⟨b.toArray⟩)) tk) L2 q1 hgl (by
          refine ⟨cur, tk, 0, 0, q2, rfl, ⟨rfl, ?_⟩, fun i _ h => by omega, fun i u hu => ?_⟩
          · show 0 + ((sortS ks).map (fun b => AV.str ⟨b.toArray⟩)).length ≤ cur.size
            rw [List.length_map, hlen2, q5]; omega
          · rw [List.getElem?_map, Option.map_eq_some_iff] at hu
            obtain ⟨z, hz, rfl⟩ := hu
            refine ⟨rfl, .string ⟨z.toArray⟩, ?_, .str _⟩
            have hx : ((sortS ks).map encStr)[i]? = some (encStr z) := by rw [List.getElem?_map, hz]; rfl
            rw [← q6, List.getElem?_take] at hx
            split at hx
            · show cur[0 + i]? = _
              rw [Nat.zero_add, ← Array.getElem?_toList]; exact hx
            · cases hx)
        refine ⟨ρ.set st.next L2, _, rfl, c, a, ?_⟩
        have hks : ks.length = ss.length := hsl.symm
        rw [hks]
        refine .slice (L := L2) (Names.set_same _ _ _) (Nat.le_refl _) q3 (fun h => by cases h) (.inr ⟨rfl, ?_⟩)
        show 0 + 0 + cap * 1 ≤ cur.size
        rw [q5]; omega
  · cases h

end Go.Det
