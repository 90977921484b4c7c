/- slices.Sorted(maps.Keys(m)) at int keys: from the library's contract to the machine's table. -/
import Derived.Test.YtenpjnfbpkidoaaGreatDoorDvLoop
import Derived.Maps.Own
import Derived.Maps.Range
import Derived.Lib.SlKeysI
set_option linter.unusedVariables false
set_option linter.unusedSimpArgs false
namespace Go.Det
open Go.MapKept Go.Maps Go.WideElems Go.RowKit
variable {P : Program}

/-- Sorted, by putting one in after the other. -/
noncomputable def putI (x : Int) : List Int → List Int
  | [] => [x]
  | y :: l => ifb (leInt x y) (x :: y :: l) (y :: putI x l)
noncomputable def sortI : List Int → List Int
  | [] => []
  | x :: l => putI x (sortI l)
theorem putI_perm (x : Int) : ∀ l : List Int, (putI x l).Perm (x :: l)
  | [] => .refl _
  | y :: l => by
    simp only [putI, ifb_eq]
    split
    · exact .refl _
    · exact ((putI_perm x l).cons y).trans (.swap x y l)
theorem putI_sorted (x : Int) : ∀ l : List Int, l.Pairwise (· ≤ ·) → (putI x l).Pairwise (· ≤ ·)
  | [], _ => by simp [putI]
  | y :: l, h => by
    simp only [putI, ifb_eq]
    obtain ⟨h1, h2⟩ := List.pairwise_cons.1 h
    split
    · rename_i c
      have c' := leInt_iff.1 c
      refine List.pairwise_cons.2 ⟨fun z hz => ?_, h⟩
      rcases List.mem_cons.1 hz with rfl | hz
      · exact c'
      · exact Int.le_trans c' (h1 z hz)
    · rename_i c
      have c' : y ≤ x := by
        rcases Int.le_total x y with h | h
        · exact absurd (leInt_iff.2 h) c
        · exact h
      refine List.pairwise_cons.2 ⟨fun z hz => ?_, putI_sorted x l h2⟩
      rcases List.mem_cons.1 ((putI_perm x l).mem_iff.1 hz) with rfl | hz
      · exact c'
      · exact h1 z hz
theorem sortI_perm : ∀ l : List Int, (sortI l).Perm l
  | [] => .refl _
  | x :: l => (putI_perm x _).trans ((sortI_perm l).cons x)
theorem sortI_sorted : ∀ l : List Int, (sortI l).Pairwise (· ≤ ·)
  | [] => .nil
  | x :: l => putI_sorted x _ (sortI_sorted l)
theorem sortI_eq (l : List Int) : sortI l = l.mergeSort leI := by
  have tr : ∀ a b c : Int, leI a b = true → leI b c = true → leI a c = true := fun a b c h1 h2 => by simp only [leI, decide_eq_true_eq] at *; exact Int.le_trans h1 h2
  have to : ∀ a b : Int, (leI a b || leI b a) = true := fun a b => by simp only [leI, Bool.or_eq_true, decide_eq_true_eq]; exact Int.le_total a b
  refine List.Perm.eq_of_pairwise (le := fun a b => leI a b = true) (fun a b _ _ h1 h2 => ?_) ((sortI_sorted l).imp fun h => by simpa [leI] using h) (List.pairwise_mergeSort tr to l) ((sortI_perm l).trans (List.mergeSort_perm l leI).symm)
  simp only [leI, decide_eq_true_eq] at h1 h2
  exact Int.le_antisymm h1 h2

/-! The entries. -/
noncomputable def keysI : List AEntry → Option (List Int)
  | [] => some []
  | e :: l => match e.key with
    | .int .i64 x => ifb (and (leInt (-9223372036854775808) x) (leInt x 9223372036854775807)) (om (x :: ·) (keysI l)) none
    | _ => none
noncomputable def notIn (x : Nat) : List Nat → Bool
  | [] => true
  | y :: l => ifb (Nat.beq x y) false (notIn x l)
noncomputable def nodupN : List Nat → Bool
  | [] => true
  | x :: l => and (notIn x l) (nodupN l)
noncomputable def notInI (x : Int) : List Int → Bool
  | [] => true
  | y :: l => ifb (eqInt x y) false (notInI x l)
noncomputable def nodupI : List Int → Bool
  | [] => true
  | x :: l => and (notInI x l) (nodupI l)
noncomputable def bornOk (c : Nat) : List AEntry → Bool
  | [] => true
  | e :: l => and (Nat.ble (Nat.succ e.born) c) (bornOk c l)
theorem notIn_sound {x : Nat} : ∀ {l : List Nat}, notIn x l = true → x ∉ l
  | [], _ => by simp
  | y :: l, h => by
    simp only [notIn, ifb_eq] at h
    split at h
    · cases h
    · rename_i c
      intro hm
      rcases List.mem_cons.1 hm with rfl | hm
      · exact c (beq_t rfl)
      · exact notIn_sound h hm
theorem nodupN_sound : ∀ {l : List Nat}, nodupN l = true → l.Nodup
  | [], _ => .nil
  | x :: l, h => by
    simp only [nodupN, Bool.and_eq_true] at h
    exact List.nodup_cons.2 ⟨notIn_sound h.1, nodupN_sound h.2⟩
theorem notInI_sound {x : Int} : ∀ {l : List Int}, notInI x l = true → x ∉ l
  | [], _ => by simp
  | y :: l, h => by
    simp only [notInI, ifb_eq] at h
    split at h
    · cases h
    · rename_i c
      intro hm
      rcases List.mem_cons.1 hm with rfl | hm
      · exact c (eqInt_iff.2 rfl)
      · exact notInI_sound h hm
theorem nodupI_sound : ∀ {l : List Int}, nodupI l = true → l.Nodup
  | [], _ => .nil
  | x :: l, h => by
    simp only [nodupI, Bool.and_eq_true] at h
    exact List.nodup_cons.2 ⟨notInI_sound h.1, nodupI_sound h.2⟩

/-- Whatever an element is: it reads. -/
def anyR : Value → Option (DataW Unit × List MemPlace) := fun _ => some (.nil, [])

theorem entries_fit {ρ : Names} {tk : TypeId} (htk : P.underlying tk = some (.int .i64)) : ∀ {es : List AEntry} {es' : List MapEntry} {ks : List Int}, ERs ρ es es' → keysI es = some ks →
    es'.map (·.key) = ks.map (Value.int .i64) ∧ es'.map (·.born) = es.map (·.born) ∧ es'.length = es.length ∧ (∀ x ∈ es', ∃ y, rd P tk anyR x = some y) ∧ (es'.map (rg P tk anyR)).map (fun p => intOf p.1) = ks
  | [], _, ks, .nil, h => by
    injection h with h; subst h; simp
  | ⟨k, v, n⟩ :: es, _, ks, .cons (k' := k') (v' := v') hk hv t, h => by
    unfold keysI at h
    dsimp only at h
    split at h
    · rename_i x
      cases hk
      rw [ifb_none, om_some] at h
      obtain ⟨hb, ks1, h1, rfl⟩ := h
      rw [Bool.and_eq_true] at hb
      have b1 := leInt_iff.1 hb.1
      have b2 := leInt_iff.1 hb.2
      have hw : (Lit.int .i64 x).wf = true := by
        simp only [Lit.wf]
        have e1 : IntKind.i64.min = -9223372036854775808 := rfl
        have e2 : IntKind.i64.max = 9223372036854775807 := rfl
        simp [e1, e2]; omega
      obtain ⟨i1, i2, i3, i4, i5⟩ := entries_fit htk t h1
      have hr : rd P tk anyR ⟨.int .i64 x, v', n⟩ = some (.int .i64 x, .nil) := by
        unfold rd
        rw [keyOf_int_mk htk hw]; rfl
      refine ⟨by simp [i1], by simp [i2], by simp [i3], ?_, ?_⟩
      · intro e he
        rcases List.mem_cons.1 he with rfl | he
        · exact ⟨_, hr⟩
        · exact i4 e he
      · rw [List.map_cons, List.map_cons, i5]
        unfold rg
        rw [hr]; rfl
    · cases h

/-- What the library's contracts say of the call. -/
structure KeysSorted (P : Program) (fS g tk : Nat) : Prop where
  full : ∀ (bx b nn : Nat) (D0 : DataW Unit) (w : World), bx < w.heap.size → w.cell? ⟨bx, 0, none⟩ = some (.map (some b)) → w.ownsMap P tk anyR b nn D0 → Maps.size D0 ≤ maxLen → Maps.size D0 * 8 ≤ 140737488355328 →
    Calls P fS #[.func (.func g) #[] #[.pointer (some ⟨bx, 0, none⟩)]] w fun e w' => ∃ (v : Value) (ss : List Int), e = .returned v ∧ ss.Perm (intKeys D0) ∧ w'.ownsRow w.heap.size tk 1 v ss.length ((ss.mergeSort fun x y => decide (x ≤ y)).map encZ) ∧ (v = .slice none 0 0 ↔ ss = []) ∧ Below w.heap.size w w'
  none_ : ∀ (bx : Nat) (w : World), bx < w.heap.size → w.cell? ⟨bx, 0, none⟩ = some (.map none) →
    Calls P fS #[.func (.func g) #[] #[.pointer (some ⟨bx, 0, none⟩)]] w fun e w' => e = .returned (.slice none 0 0) ∧ Below w.heap.size w w'

noncomputable def sortedT (g tk : Nat) (args : List AV) (st : St) : Option (AV × St) :=
  match args with
  | [.func f [] [.ptr bx o]] => ifb (and (Nat.beq f g) (Nat.beq o 0)) (ob (st.heap.get bx) fun ob1 => (match ob1 with
    | .row [.nilMap] _ => some (.nilSlice, st)
    | .row [.map mb] _ => ob (st.heap.get mb) fun ob2 => (match ob2 with
      | .map es c => ob (keysI es) fun ks =>
        ifb (and (Nat.ble es.length 1000000) (and (bornOk c es) (and (nodupN (es.map (·.born))) (nodupI ks))))
          (match sortI ks with
           | [] => some (.nilSlice, st)
           | l => some (.slice st.next 0 ks.length ks.length false 1, st.new (.row (l.map (AV.int .i64)) tk))) none
      | _ => none)
    | _ => none)) none
  | _ => none

/-- A block that a call has made is given a name. -/
theorem HR.name {ρ : Names} {st : St} {w w' : World} (h : HR ρ st w) (hb : Below w.heap.size w w') (o : Ob) (L : Loc) (h1 : w.heap.size ≤ L.blk) (h2 : L.blk < w'.heap.size) (ho : OR (ρ.set st.next L) L o w'.heap[L.blk]?) :
    HR (ρ.set st.next L) (st.new o) w' ∧ Goes ρ st w (ρ.set st.next L) (st.new o) w' := by
  have hle := Names.set_le L h.fresh
  obtain ⟨h', hg⟩ := h.beside hb
  refine ⟨⟨?_, ?_, ?_, h'.mem, ?_, fun g l hg => let ⟨l', a, c⟩ := h.glob g l hg; ⟨l', a.mono hle, fun i v hv => hle.mem _ _ _ (c i v hv)⟩⟩, ⟨hle, Nat.le_succ _, ?_, hb.size, ?_, hg.same, hb.os, hb.tape, hb.output, fun _ _ _ h => .inl h⟩⟩
  · intro b K hK
    rcases Names.set_inv hK with ⟨rfl, rfl⟩ | ⟨_, hK⟩
    · exact ⟨Nat.lt_succ_self _, h2⟩
    · have := h'.lt _ _ hK; exact ⟨Nat.lt_succ_of_lt this.1, this.2⟩
  · intro b o' hb'
    change (st.heap.set st.next o).get b = some o' at hb'
    rw [Tr.get_set] at hb'
    by_cases e : b = st.next
    · rw [if_pos e] at hb'
      injection hb' with hb'; subst hb'; subst e
      exact ⟨L, Names.set_same _ _ _, ho⟩
    · rw [if_neg e] at hb'
      obtain ⟨K, hK, hO⟩ := h'.obj _ _ hb'
      exact ⟨K, hle _ _ hK, hO.mono hle⟩
  · intro b b' o1 o2 K K' g1 g2 hK hK' he
    change (st.heap.set st.next o).get b = some o1 at g1
    change (st.heap.set st.next o).get b' = some o2 at g2
    rw [Tr.get_set] at g1 g2
    rcases Names.set_inv hK with ⟨e1, e2⟩ | ⟨n1, k1⟩
    · rcases Names.set_inv hK' with ⟨e3, e4⟩ | ⟨n2, k2⟩
      · rw [e1, e3]
      · have := (h.lt _ _ k2).2; rw [e2] at he; omega
    · rcases Names.set_inv hK' with ⟨e3, e4⟩ | ⟨n2, k2⟩
      · have := (h.lt _ _ k1).2; rw [e4] at he; omega
      · rw [if_neg n1] at g1; rw [if_neg n2] at g2
        exact h.inj _ _ _ _ _ _ g1 g2 k1 k2 he
  · intro a i v hv b o' K hg hK he
    change (st.heap.set st.next o).get b = some o' at hg
    rw [Tr.get_set] at hg
    rcases Names.set_inv hK with ⟨e1, e2⟩ | ⟨n1, k1⟩
    · have := h.mem_lt (show ρ.mem a i = some v from hv); rw [e2] at he; omega
    · rw [if_neg n1] at hg
      exact h.sep _ _ _ hv _ _ _ hg k1 he
  · intro b K hK
    rcases Names.set_inv hK with ⟨rfl, rfl⟩ | ⟨_, hK⟩
    · exact .inr ⟨Nat.le_refl _, fun k hk => by rw [h.fresh] at hk; cases hk⟩
    · exact .inl hK
  · intro b o' K hb' hK hlt
    rcases Names.set_inv hK with ⟨rfl, rfl⟩ | ⟨n1, hK⟩
    · omega
    · change (st.heap.set st.next o).get b = some o' at hb'
      rw [Tr.get_set, if_neg n1] at hb'
      exact ⟨b, o', K, hb', hK, rfl⟩

theorem bornOk_sound {c : Nat} : ∀ {es : List AEntry}, bornOk c es = true → ∀ n ∈ es.map (·.born), n < c
  | [], _, n, hn => by simp at hn
  | e :: l, h, n, hn => by
    simp only [bornOk, Bool.and_eq_true] at h
    simp only [List.map_cons, List.mem_cons] at hn
    rcases hn with rfl | hn
    · exact of_ble h.1
    · exact bornOk_sound h.2 n hn
/-- The cell of a box. -/
theorem box_cell {ρ : Names} {L : Loc} {v : AV} {w : World} (h : RowAt ρ L [v] w.heap[L.blk]?) : L.off = 0 ∧ ∃ v', w.cell? ⟨L.blk, 0, none⟩ = some v' ∧ VR ρ v v' := by
  obtain ⟨arr, e, lo, hi, h1, h2, h3, h4, h5⟩ := h
  obtain ⟨_, v', h6, h7⟩ := h5 0 v rfl
  refine ⟨h3.1, v', ?_, h7⟩
  rw [h3.1] at h6
  simp only [World.cell?, h1]
  simpa using h6
theorem sortedT_ok {fS g tk : Nat} (hk : KeysSorted P fS g tk) (htk : P.underlying tk = some (.int .i64)) (hen : ∀ (X : Array Value) (w : World), (callFunc fS X).run P w = .ok (.enter fS X) w) {args : List AV} {st st' : St} {v : AV}
    (h : sortedT g tk args st = some (v, st')) : CallS P fS args st v st' := by
  refine CallS.of_calls hen fun ρ w args' hH hA => ?_
  unfold sortedT at h
  split at h
  case h_2 => cases h
  rename_i f bx o
  rw [ifb_none, Bool.and_eq_true] at h
  obtain ⟨⟨hf, ho⟩, h⟩ := h
  obtain rfl : f = g := of_beq hf
  obtain rfl : o = 0 := of_beq ho
  rw [ob_some] at h
  obtain ⟨o1, h1, h⟩ := h
  cases hA with
  | cons hv hA =>
  cases hA
  cases hv with
  | func ha hc =>
  cases ha
  cases hc with
  | cons hp hc =>
  cases hc
  cases hp with
  | ptr hL =>
  rename_i L
  obtain ⟨L', hL', hO⟩ := hH.obj _ _ h1
  rw [hL] at hL'; injection hL' with hL'; subst hL'
  have hlt := (hH.lt _ _ hL).2
  split at h
  · -- the nil map
    injection h with h; injection h with h2 h3; subst h2; subst h3
    obtain ⟨h0, v', hc, hv⟩ := box_cell hO
    cases hv
    rw [h0]
    refine (hk.none_ L.blk w hlt hc).mono ?_
    rintro e w' ⟨rfl, hb⟩
    obtain ⟨a, c⟩ := hH.beside hb
    exact ⟨ρ, _, rfl, c, a, .nilSlice⟩
  · rename_i mb te
    rw [ob_some] at h
    obtain ⟨o2, h2, h⟩ := h
    obtain ⟨h0, v', hc, hv⟩ := box_cell hO
    split at h
    case h_2 => cases h
    rename_i es c
    rw [ob_some] at h
    obtain ⟨ks, h3, h⟩ := h
    rw [ifb_none] at h
    obtain ⟨h4, h⟩ := h
    simp only [Bool.and_eq_true] at h4
    obtain ⟨g1, g2, g3, g4⟩ := h4
    cases hv with
    | map hm =>
    rename_i Lm
    obtain ⟨Lm', hm', hOm⟩ := hH.obj _ _ h2
    rw [hm] at hm'; injection hm' with hm'; subst hm'
    obtain ⟨es', hb, hE⟩ := hOm
    obtain ⟨i1, i2, i3, i4, i5⟩ := entries_fit htk hE h3
    have hlen : es.length ≤ 1000000 := of_ble g1
    let D0 : DataW Unit := .map ((es'.map (rg P tk anyR)).foldr DataW.insert [])
    have hown : w.ownsMap P tk anyR Lm.blk es'.length D0 := by
      refine ⟨⟨es'⟩, c, hb, ⟨?_, ⟨?_, ?_, ?_⟩, i4⟩, Nat.le_refl _, rfl⟩
      · show es'.length ≤ maxLen
        rw [i3]; unfold maxLen; omega
      · intro x hx
        have : x.born ∈ es'.map (·.born) := List.mem_map.2 ⟨x, hx, rfl⟩
        rw [i2] at this
        exact bornOk_sound g2 _ this
      · show (es'.map (·.born)).Nodup
        rw [i2]; exact nodupN_sound g3
      · show (es'.map (·.key)).Nodup
        rw [i1]
        exact List.pairwise_map.2 ((nodupI_sound g4).imp fun hne e => hne (by injection e))
    have hpk : (intKeys D0).Perm ks := by
      show (((es'.map (rg P tk anyR)).foldr DataW.insert []).map fun p => intOf p.1).Perm ks
      exact ((Go.WideShapes.sorted_perm _).map _).trans (by rw [i5])
    have hsz : Maps.size D0 = ks.length := by
      have := hpk.length_eq
      rw [← this]
      show ((es'.map (rg P tk anyR)).foldr DataW.insert []).length = (((es'.map (rg P tk anyR)).foldr DataW.insert []).map fun p => intOf p.1).length
      rw [List.length_map]
    have hkl : ks.length = es.length := by
      have := congrArg List.length i1
      simp only [List.length_map] at this
      omega
    rw [h0]
    refine (hk.full L.blk Lm.blk es'.length D0 w hlt hc hown (by rw [hsz, hkl]; unfold maxLen; omega) (by rw [hsz, hkl]; omega)).mono ?_
    rintro e w' ⟨v', ss, rfl, hperm, hrow, hnil, hbel⟩
    have hsp : ss.Perm ks := hperm.trans hpk
    have hss : (ss.mergeSort fun x y => decide (x ≤ y)) = sortI ks := by rw [sortI_eq]; exact mergeSort_of_perm_i hsp
    have hsl : ss.length = ks.length := hsp.length_eq
    rw [hss] at hrow
    split at h
    · rename_i hs
      injection h with h; injection h with h5 h6; subst h5; subst h6
      have : ss = [] := by
        have := hss
        rw [hs] at this
        have hl := (List.mergeSort_perm ss (fun x y => decide (x ≤ y))).length_eq
        rw [this] at hl
        exact List.length_eq_zero_iff.1 hl.symm
      obtain rfl := hnil.2 this
      obtain ⟨a, c⟩ := hH.beside hbel
      exact ⟨ρ, _, rfl, c, a, .nilSlice⟩
    · rename_i l hs
      injection h with h; injection h with h5 h6; subst h5; subst h6
      obtain ⟨hxs, hrow⟩ := hrow
      rcases hrow with ⟨rfl, hz⟩ | ⟨gb, cap, cur, rfl, q1, q2, q3, q4, q5, q6⟩
      · exfalso
        have : ss = [] := hnil.1 rfl
        rw [this] at hsp
        have : ks = [] := hsp.symm.eq_nil
        subst this
        exact hs rfl
      · have hgl : gb < w'.heap.size := by
          rcases Nat.lt_or_ge gb w'.heap.size with h | h
          · exact h
          · rw [Array.getElem?_eq_none h] at q2; cases q2
        let L2 : Loc := ⟨gb, 0, cur.size⟩
        have hlen2 : (sortI ks).length = ks.length := (sortI_perm ks).length_eq
        obtain ⟨a, c⟩ := hH.name hbel (.row ((sortI ks).map (AV.int .i64)) tk) L2 q1 hgl (by
          refine ⟨cur, tk, 0, 0, q2, rfl, ⟨rfl, ?_⟩, fun i _ h => by omega, fun i u hu => ?_⟩
          · show 0 + ((sortI ks).map (AV.int .i64)).length ≤ cur.size
            rw [List.length_map, hlen2, q5]; omega
          · rw [List.getElem?_map, Option.map_eq_some_iff] at hu
            obtain ⟨z, hz, rfl⟩ := hu
            refine ⟨rfl, .int .i64 z, ?_, .int _ _⟩
            have hx : ((sortI ks).map encZ)[i]? = some (encZ z) := by rw [List.getElem?_map, hz]; rfl
            rw [← q6, List.getElem?_take] at hx
            split at hx
            · show cur[0 + i]? = _
              rw [Nat.zero_add, ← Array.getElem?_toList]; exact hx
            · cases hx)
        refine ⟨ρ.set st.next L2, _, rfl, c, a, ?_⟩
        have hks : ks.length = ss.length := hsl.symm
        rw [hks]
        refine .slice (L := L2) (Names.set_same _ _ _) (Nat.le_refl _) q3 (fun h => by cases h) (.inr ⟨rfl, ?_⟩)
        show 0 + 0 + cap * 1 ≤ cur.size
        rw [q5]; omega
  · cases h

theorem enter_of {f : FuncId} {fn : Func} (h : P.funcs[f]? = some fn) (hn : (fn.name == "runtime.NumGoroutine") = false) (hb : fn.body.isSome = true) (X : Array Value) (w : World) : (callFunc f X).run P w = .ok (.enter f X) w := by
  obtain ⟨c, hc⟩ := Option.isSome_iff_exists.1 hb
  have hn' : ¬ fn.name = "runtime.NumGoroutine" := by simpa using hn
  simp [callFunc, h, hn', hc]

/-! Runs over a table. -/
theorem CallS.ranT {tab : Tab} (hm : P.follows .mixedOrders = true) (ht : TabOk P tab) {n f : Nat} (h : answersTrue ((runTab tab P n).call f [] st0) = true) (st : St) : CallS P f [] st (.bool true) st := by
  unfold answersTrue at h
  split at h
  · rename_i st1 hr
    exact CallS.closed ((runTab_sound ht hm n).2.1 f [] st0 _ st1 hr) st
  · cases h
noncomputable def tabAdd (f : Nat) (tab : Tab) : Tab := fun g => Bool.rec (tab g) (some fun args st => List.rec (some (.bool true, st)) (fun _ _ _ => none) args) (Nat.beq g f)
theorem tabAdd_ok {tab : Tab} {f : Nat} (ht : TabOk P tab) (h : ∀ st, CallS P f [] st (.bool true) st) : TabOk P (tabAdd f tab) := by
  intro g F hF args st v st' hr
  unfold tabAdd at hF
  cases hb : Nat.beq g f with
  | false => rw [hb] at hF; exact ht g F hF args st v st' hr
  | true =>
    rw [hb] at hF
    injection hF with hF; subst hF
    obtain rfl : g = f := of_beq hb
    cases args with
    | nil => injection hr with hr; injection hr with h1 h2; subst h1; subst h2; exact h _
    | cons a l => cases hr
theorem closedT_true {tab : Tab} (hm : P.follows .mixedOrders = true) (ht : TabOk P tab) {n f : Nat} (h : answersTrue ((runTab tab P n).call f [] st0) = true) (w : World) :
    Calls P f #[] w fun e w' => e = .returned (.bool true) ∧ Below w.heap.size w w' := by
  refine ((CallS.ranT hm ht h st0).calls (st0_HR w) (args' := []) .nil).mono ?_
  rintro e w' ⟨ρ, v', rfl, V, H, G⟩
  cases V
  exact ⟨rfl, G.below⟩

end Go.Det
