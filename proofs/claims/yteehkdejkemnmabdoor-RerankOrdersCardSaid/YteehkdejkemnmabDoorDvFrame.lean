/- A part of a state: what runs there runs in the whole. -/
import Derived.Test.YteehkdejkemnmabDoorDvLoop
set_option linter.unusedVariables false
set_option linter.unusedSimpArgs false
namespace Go.Det
variable {P : Program}

/-- The names of the part, told by the whole's: old ones by τ, new ones behind the whole's own. -/
def shift (τ : Nat → Nat) (N M : Nat) (b : Nat) : Nat := if b < N then τ b else M + (b - N)
def Names.whole (ρ ρ1 : Names) (N M : Nat) : Names := ⟨fun b => if b < M then ρ b else ρ1 (N + (b - M)), ρ1.mem⟩

/-- The state stC is a part of st. -/
structure Part (N : Nat) (τ : Nat → Nat) (st stC : St) : Prop where
  obj : ∀ b o, stC.heap.get b = some o → b < stC.next ∧ (∃ o', st.heap.get (τ b) = some o' ∧ WkO o' (o.ren τ)) ∧ o.under stC.next
  inj : ∀ b b', b < stC.next → b' < stC.next → τ b = τ b' → b = b'
  gl : ∀ g l, stC.gl.get g = some l → st.gl.get g = some l ∧ AV.frees l = true
/-- What comes of the whole, if stC' comes of the part. -/
structure Whole (N : Nat) (τ : Nat → Nat) (st stC stC' st' : St) : Prop where
  next : st'.next = st.next + (stC'.next - N)
  le : N ≤ stC'.next
  gl : st'.gl = st.gl
  obj : ∀ b o, st'.heap.get b = some o → (∃ b0 o0, b = shift τ N st.next b0 ∧ stC'.heap.get b0 = some o0 ∧ WkO (o0.ren (shift τ N st.next)) o) ∨
    (st.heap.get b = some o ∧ ∀ b0 o0, stC.heap.get b0 = some o0 → τ b0 ≠ b)

theorem Part.HR {N : Nat} {τ : Nat → Nat} {st stC : St} (h : Part N τ st stC) {ρ : Names} {w : World} (hH : HR ρ st w) : HR (ρ.ren τ stC.next) stC w := by
  refine ⟨fun b L hb => ?_, fun b o hb => ?_, fun b b' o o' L L' h1 h2 h3 h4 e => ?_, hH.mem, fun a i v hv b o L hb hL he => ?_, fun g l hg => ?_⟩
  · obtain ⟨h1, h2⟩ := Names.ren_inv hb
    exact ⟨h1, (hH.lt _ _ h2).2⟩
  · obtain ⟨h1, ⟨o', h2, hw⟩, h3⟩ := h.obj b o hb
    obtain ⟨L, hL, hO⟩ := hH.obj _ _ h2
    exact ⟨L, by rw [Names.ren_at h1]; exact hL, (hw.1 _ _ _ hO).ren h3⟩
  · obtain ⟨a1, ⟨_, a2, _⟩, _⟩ := h.obj b o h1
    obtain ⟨c1, ⟨_, c2, _⟩, _⟩ := h.obj b' o' h2
    rw [Names.ren_at a1] at h3
    rw [Names.ren_at c1] at h4
    exact h.inj b b' a1 c1 (hH.inj _ _ _ _ _ _ a2 c2 h3 h4 e)
  · obtain ⟨a1, ⟨o', a2, hw⟩, _⟩ := h.obj b o hb
    rw [Names.ren_at a1] at hL
    obtain ⟨k1, k2⟩ := hH.sep a i v hv _ _ L a2 hL he
    exact ⟨ren_spare.1 (hw.2 k1), k2⟩
  · obtain ⟨h1, hf⟩ := h.gl g l hg
    obtain ⟨l', a, c⟩ := hH.glob g l h1
    exact ⟨l', VRs.free (ρ := ρ) (ρ' := ρ.ren τ stC.next) (fun _ _ _ h => h) a hf, c⟩

theorem frame_core {N : Nat} {τ : Nat → Nat} {st stC stC' st' : St} {ρ ρ1 : Names} {w w1 : World} (hH : HR ρ st w) (hp : Part N τ st stC) (G : GoesN N (ρ.ren τ stC.next) stC w ρ1 stC' w1) (H1 : HR ρ1 stC' w1)
    (hw : Whole N τ st stC stC' st') : HR (ρ.whole ρ1 N st.next) st' w1 ∧ Goes ρ st w (ρ.whole ρ1 N st.next) st' w1 ∧ ∀ b L, ρ1 b = some L → (ρ.whole ρ1 N st.next) (shift τ N st.next b) = some L := by
  have fw : ∀ b L, ρ1 b = some L → (ρ.whole ρ1 N st.next) (shift τ N st.next b) = some L := by
    intro b L hb
    unfold shift
    by_cases c : b < N
    · rw [if_pos c]
      obtain ⟨_, h2⟩ := Names.ren_inv (G.nm b L c hb)
      show (if τ b < st.next then ρ (τ b) else _) = _
      rw [if_pos (hH.lt _ _ h2).1]; exact h2
    · rw [if_neg c]
      show (if st.next + (b - N) < st.next then _ else ρ1 (N + (st.next + (b - N) - st.next))) = _
      rw [if_neg (by omega), show N + (st.next + (b - N) - st.next) = b by omega]; exact hb
  have at2 : ∀ b L, b < st.next → (ρ.whole ρ1 N st.next) b = some L → ρ b = some L := fun b L hb hL => by
    have hL' : (if b < st.next then ρ b else _) = some L := hL
    rwa [if_pos hb] at hL'
  have le : ρ.le (ρ.whole ρ1 N st.next) := ⟨fun b L h => by show (if b < st.next then ρ b else _) = _; rw [if_pos (hH.lt _ _ h).1]; exact h, fun a i v h => G.mem a i v h⟩
  have inn : ∀ b o, st.heap.get b = some o → b < st.next := fun b o h => let ⟨L, hL, _⟩ := hH.obj b o h; (hH.lt b L hL).1
  have out : ∀ b o L, st.heap.get b = some o → (∀ b0 o0, stC.heap.get b0 = some o0 → τ b0 ≠ b) → ρ b = some L → ∀ b1 o1 L1, stC.heap.get b1 = some o1 → (ρ.ren τ stC.next) b1 = some L1 → L1.blk ≠ L.blk := by
    intro b o L hb hn hL b1 o1 L1 h1 hL1 he
    obtain ⟨_, h2⟩ := Names.ren_inv hL1
    obtain ⟨_, ⟨o', h3, _⟩, _⟩ := hp.obj b1 o1 h1
    exact hn b1 o1 h1 (hH.inj _ _ _ _ _ _ h3 hb h2 hL he)
  have at1 : ∀ b0 o0 L, stC'.heap.get b0 = some o0 → (ρ.whole ρ1 N st.next) (shift τ N st.next b0) = some L → ρ1 b0 = some L := by
    intro b0 o0 L h hL
    obtain ⟨L', h1, _⟩ := H1.obj b0 o0 h
    have := fw _ _ h1
    rw [this] at hL; injection hL with hL; subst hL; exact h1
  have cross : ∀ b0 o0 L, stC'.heap.get b0 = some o0 → ρ1 b0 = some L → ∀ b o K, st.heap.get b = some o → (∀ b0 o0, stC.heap.get b0 = some o0 → τ b0 ≠ b) → ρ b = some K → L.blk ≠ K.blk := by
    intro b0 o0 L h0 hL b o K hb hn hK he
    obtain ⟨b1, o1, L1, q1, q2, q3⟩ := G.img b0 o0 L h0 hL (by rw [he]; exact (hH.lt _ _ hK).2)
    exact out b o K hb hn hK b1 o1 L1 q1 q2 (q3.trans he)
  refine ⟨⟨?_, ?_, ?_, H1.mem, ?_, ?_⟩, ⟨le, by rw [hw.next]; omega, ?_, G.size, ?_, ?_, G.os, G.tape, G.output, G.drawn, ?_⟩, fw⟩
  · intro b L hL
    by_cases c : b < st.next
    · have h := hH.lt _ _ (at2 b L c hL)
      exact ⟨by rw [hw.next]; omega, Nat.lt_of_lt_of_le h.2 G.size⟩
    · have hL' : (if b < st.next then ρ b else ρ1 (N + (b - st.next))) = some L := hL
      rw [if_neg c] at hL'
      have h := H1.lt _ _ hL'
      exact ⟨by rw [hw.next]; omega, h.2⟩
  · intro b o hb
    rcases hw.obj b o hb with ⟨b0, o0, rfl, h0, hk⟩ | ⟨h0, hn⟩
    · obtain ⟨L, hL, hO⟩ := H1.obj _ _ h0
      exact ⟨L, fw _ _ hL, hk.1 _ _ _ (hO.fwd fw (fun _ _ _ h => h))⟩
    · obtain ⟨L, hL, hO⟩ := hH.obj _ _ h0
      exact ⟨L, le.loc _ _ hL, by rw [G.same _ (hH.lt _ _ hL).2 (out b o L h0 hn hL)]; exact hO.mono le⟩
  · intro b b' o o' L L' hb hb' hL hL' he
    rcases hw.obj b o hb with ⟨b0, o0, rfl, h0, _⟩ | ⟨h0, hn⟩ <;> rcases hw.obj b' o' hb' with ⟨b0', o0', rfl, h0', _⟩ | ⟨h0', hn'⟩
    · rw [H1.inj _ _ _ _ _ _ h0 h0' (at1 _ _ _ h0 hL) (at1 _ _ _ h0' hL') he]
    · exact absurd he (cross b0 o0 L h0 (at1 _ _ _ h0 hL) b' o' L' h0' hn' (at2 _ _ (inn _ _ h0') hL'))
    · exact absurd he.symm (cross b0' o0' L' h0' (at1 _ _ _ h0' hL') b o L h0 hn (at2 _ _ (inn _ _ h0) hL))
    · exact hH.inj _ _ _ _ _ _ h0 h0' (at2 _ _ (inn _ _ h0) hL) (at2 _ _ (inn _ _ h0') hL') he
  · intro a i v hv b o L hb hL he
    rcases hw.obj b o hb with ⟨b0, o0, rfl, h0, hk⟩ | ⟨h0, hn⟩
    · obtain ⟨k1, k2⟩ := H1.sep a i v hv _ _ L h0 (at1 _ _ _ h0 hL) he
      exact ⟨hk.2 (ren_spare.2 k1), k2⟩
    · have hL' := at2 _ _ (inn _ _ h0) hL
      rcases G.grew a i v hv with hv' | hge | ⟨b1, o1, L1, h1, hL1, he1⟩
      · exact hH.sep a i v hv' b o _ h0 hL' he
      · have := (hH.lt _ _ hL').2; omega
      · exact absurd (he1.trans he.symm) (out b o L h0 hn hL' b1 o1 L1 h1 hL1)
  · intro g l hg
    rw [hw.gl] at hg
    obtain ⟨l', a, c⟩ := hH.glob g l hg
    exact ⟨l', a.mono le, fun i v hv => le.mem _ _ _ (c i v hv)⟩
  · intro b L hL
    by_cases c : b < st.next
    · exact .inl (at2 b L c hL)
    · exact .inr ⟨by omega, fun k hk => c (hH.lt _ _ hk).1⟩
  · intro b o L hb hL hlt
    rcases hw.obj b o hb with ⟨b0, o0, rfl, h0, _⟩ | ⟨h0, hn⟩
    · obtain ⟨b1, o1, L1, q1, q2, q3⟩ := G.img b0 o0 L h0 (at1 _ _ _ h0 hL) hlt
      obtain ⟨_, ⟨o', h3, _⟩, _⟩ := hp.obj b1 o1 q1
      exact ⟨τ b1, o', L1, h3, (Names.ren_inv q2).2, q3⟩
    · exact ⟨b, o, L, h0, at2 _ _ (inn _ _ h0) hL, rfl⟩
  · intro x hx hno
    exact G.same x hx fun b o L hb hL => by
      obtain ⟨_, ⟨o', h3, _⟩, _⟩ := hp.obj b o hb
      exact hno (τ b) o' L h3 (Names.ren_inv hL).2
  · intro a i v hv
    rcases G.grew a i v hv with h | h | ⟨b, o, L, h1, h2, h3⟩
    · exact .inl h
    · exact .inr (.inl h)
    · obtain ⟨_, ⟨o', h4, _⟩, _⟩ := hp.obj b o h1
      exact .inr (.inr ⟨τ b, o', L, h4, (Names.ren_inv h2).2, h3⟩)

/-! Calls. -/
/-- As CallS; of names below N alone it is known that they stay. -/
def CallN (P : Program) (N : Nat) (f : FuncId) (args : List AV) (st : St) (v : AV) (st' : St) : Prop :=
  (∀ (X : Array Value) (w : World), (callFunc f X).run P w = .ok (.enter f X) w) ∧
  ∀ ρ w args' cs, HR ρ st w → VRs ρ args args' → ∃ ρ' w' v' fr', GoesN N ρ st w ρ' st' w' ∧ HR ρ' st' w' ∧ VR ρ' v v' ∧ Steps P (lone (Frame.enter P f ⟨args'⟩ .normal) cs w) (lone fr' cs w') ∧ Leaves P f .normal fr' v' w'
theorem CallS.toN {f : FuncId} {args : List AV} {st st' : St} {v : AV} (h : CallS P f args st v st') {N : Nat} (hN : N ≤ st.next) : CallN P N f args st v st' :=
  ⟨h.1, fun ρ w args' cs hH hA => let ⟨ρ', w', v', fr', G, H, V, s, l⟩ := h.2 ρ w args' cs hH hA; ⟨ρ', w', v', fr', G.toN hN, H, V, s, l⟩⟩
theorem CallN.re {N : Nat} {f : FuncId} {args : List AV} {st st' stc : St} {v vc : AV} (h : CallN P N f args st v st') {τ : Nat → Nat} (hr : Re N τ (mkT [(0, v)]) st' (mkT [(0, vc)]) stc) (hg : ∀ g l, stc.gl.get g = some l → st.gl.get g = some l) : CallN P N f args st vc stc := by
  refine ⟨h.1, fun ρ w args' cs hH hA => ?_⟩
  obtain ⟨ρ', w', v', fr', G, H, V, s, l⟩ := h.2 ρ w args' cs hH hA
  obtain ⟨⟨u, h1, h2⟩, h3⟩ := hr.tmp 0 vc (by simp [mkT, Tr.get_set])
  obtain rfl : u = v := by simp [mkT, Tr.get_set] at h1; exact h1.symm
  exact ⟨_, w', v', fr', G.trans hr.goes, hr.HR ((GlobOk.of hH hg).mono G.mem hr.fr) H, (h2 _ _ V).ren h3, s, l⟩
theorem CallN.frame {N : Nat} {τ : Nat → Nat} {f : FuncId} {argsC args : List AV} {st stC stC' st' : St} {vC v : AV} (h : CallN P N f argsC stC vC stC') (hp : Part N τ st stC) (hw : Whole N τ st stC stC' st')
    (ha : WkL args (AV.rens τ argsC)) (hu : AV.unders stC.next argsC) (hv : Wk (vC.ren (shift τ N st.next)) v) : CallS P f args st v st' := by
  refine ⟨h.1, fun ρ w args' cs hH hA => ?_⟩
  obtain ⟨ρ1, w1, v', fr', G, H1, V, s, l⟩ := h.2 _ w args' cs (hp.HR hH) (VRs.ren (ha.vrs hA) hu)
  obtain ⟨H2, G2, fw⟩ := frame_core hH hp G H1 hw
  exact ⟨_, w1, v', fr', G2, H2, hv _ _ (V.fwd fw (fun _ _ _ h => h)), s, l⟩

/-! Code. -/
theorem CodeN.frame {N : Nat} {τ : Nat → Nat} {fn : FuncId} {nt : Nat} {c : Code} {Tc T T' : Tr AV} {st stC st' : St} {o : Out} (h : CodeN P N none fn nt c Tc stC o) (hd : o.defers = []) (hp : Part N τ st stC)
    (hT : ∀ i v, Tc.get i = some v → (∃ u, T.get i = some u ∧ Wk u (v.ren τ)) ∧ v.under stC.next) (hw : Whole N τ st stC o.st st')
    (hT' : ∀ i v, T'.get i = some v → ∃ u, o.tmps.get i = some u ∧ Wk (u.ren (shift τ N st.next)) v) : CodeS P none fn nt c T [] st ⟨o.ex, T', [], st'⟩ := by
  intro ρ w tm df b k cs hH hTR hD hb hro
  cases hD
  have hTc : TR (ρ.ren τ stC.next) nt Tc tm := ⟨hTR.1, fun t v hv => let ⟨⟨u, a, aw⟩, b⟩ := hT t v hv; let ⟨v', c, d⟩ := hTR.2 t _ a; ⟨v', c, (aw _ _ d).ren b⟩⟩
  obtain ⟨ρ1, w1, tm1, G, H1, T1, A⟩ := h _ w tm b k cs (hp.HR hH) hTc hb hro.toNone
  obtain ⟨H2, G2, fw⟩ := frame_core hH hp G H1 hw
  refine ⟨_, w1, tm1, [], G2, H2, ⟨T1.1, fun t v hv => ?_⟩, .nil, A⟩
  obtain ⟨u, h1, h2⟩ := hT' t v hv
  obtain ⟨v', h3, h4⟩ := T1.2 t u h1
  exact ⟨v', h3, h2 _ _ (h4.fwd fw (fun _ _ _ h => h))⟩

/-! A row that nothing writes any more. -/
theorem HR.freeze {ρ : Names} {st : St} {w : World} (h : HR ρ st w) {b : Nat} {cs : List AV} {e : TypeId} {L : Loc} (hb : st.heap.get b = some (.row cs e)) (hL : ρ b = some L) :
    ∃ ρ' : Names, HR ρ' (st.del b) w ∧ Goes ρ st w ρ' (st.del b) w ∧
      ∀ o n cap ex sz x, VR ρ (.slice b o n cap ex sz) x → o + n * sz ≤ cs.length → VR ρ' (.vs ((cs.drop o).take (n * sz)) n cap ex none sz) x := by
  obtain ⟨L', hL', hO⟩ := h.obj _ _ hb
  rw [hL] at hL'; injection hL' with hL'; subst hL'
  obtain ⟨arr, e', lo, hi, h1, h2, h3, h4, h5⟩ := hO
  have hrow : RowAt ρ L cs w.heap[L.blk]? := ⟨arr, e', lo, hi, h1, h2, h3, h4, h5⟩
  let l' := arr.toList.take cs.length
  have hlen : l'.length = cs.length := by
    show (arr.toList.take cs.length).length = _
    have h9 : arr.toList.length = L.tot := by rw [Array.length_toList, h2]
    rw [List.length_take]; omega
  have hget : ∀ (i : Nat) (v : Value), l'[i]? = some v → arr[i]? = some v := fun i v hv => by
    have hv' : (arr.toList.take cs.length)[i]? = some v := hv
    rw [List.getElem?_take] at hv'
    split at hv'
    · rwa [Array.getElem?_toList] at hv'
    · cases hv'
  have hvr : VRs ρ cs l' := VRs.of_get hlen fun i v hv => by
    obtain ⟨_, v', q1, q2⟩ := h5 i v hv
    have hi : i < cs.length := by
      rcases Nat.lt_or_ge i cs.length with q | q
      · exact q
      · rw [List.getElem?_eq_none q] at hv; cases hv
    refine ⟨v', ?_, q2⟩
    show (arr.toList.take cs.length)[i]? = _
    rw [List.getElem?_take_of_lt hi, Array.getElem?_toList]
    rw [h3.1, Nat.zero_add] at q1; exact q1
  have hsc : allScalar cs = true := allScalar_iff.2 fun v hv => by
    obtain ⟨i, hi, rfl⟩ := List.getElem_of_mem hv
    exact (h5 i _ (List.getElem?_eq_getElem hi)).1
  have hno : ∀ i v, ρ.mem L.blk i = some v → False := fun i v hv => by
    have := (h.sep _ _ _ hv _ _ _ hb hL rfl).1; cases this
  have hle : ρ.le (ρ.add L.blk 0 l') := Names.add_le fun i v hv => (hno i v hv).elim
  have back : ∀ b' o, (st.del b).heap.get b' = some o → b' ≠ b ∧ st.heap.get b' = some o := fun b' o hb' => by
    change (st.heap.del b).get b' = some o at hb'
    rw [Tr.get_del] at hb'
    by_cases q : b' = b
    · rw [if_pos q] at hb'; cases hb'
    · rw [if_neg q] at hb'; exact ⟨q, hb'⟩
  refine ⟨ρ.add L.blk 0 l', ⟨h.lt, fun b' o hb' => ?_, fun b1 b2 o1 o2 L1 L2 g1 g2 => h.inj _ _ _ _ _ _ (back _ _ g1).2 (back _ _ g2).2, fun a i v hv => ?_, fun a i v hv b' o K hb' hK he => ?_, fun g l hg => ?_⟩,
    ⟨hle, Nat.le_refl _, fun _ _ h => .inl h, Nat.le_refl _, fun b' o K hb' hK _ => ⟨b', o, K, (back _ _ hb').2, hK, rfl⟩, fun _ _ _ => rfl, rfl, rfl, rfl, Nat.le_refl _, fun a i v hv => ?_⟩, fun o n cap ex sz x hx hn => ?_⟩
  · obtain ⟨K, k1, k2⟩ := h.obj _ _ (back _ _ hb').2
    exact ⟨K, k1, k2.mono hle⟩
  · rcases Names.add_inv hv with ⟨rfl, g1, g2, g3⟩ | ⟨_, hv'⟩
    · have := hget _ _ g3
      rw [Nat.sub_zero] at this
      simp only [World.cell?, h1]
      simpa using this
    · exact h.mem _ _ _ hv'
  · obtain ⟨n1, hb''⟩ := back _ _ hb'
    rcases Names.add_inv hv with ⟨ha, g1, g2, g3⟩ | ⟨_, hv'⟩
    · exact absurd (h.inj _ _ _ _ _ _ hb'' hb hK hL (he.trans ha)) n1
    · exact h.sep _ _ _ hv' _ _ _ hb'' hK he
  · obtain ⟨l1, a, c⟩ := h.glob g l hg
    exact ⟨l1, a.mono hle, fun i v hv => hle.mem _ _ _ (c i v hv)⟩
  · rcases Names.add_inv hv with ⟨ha, _, _, _⟩ | ⟨_, hv'⟩
    · exact .inr (.inr ⟨b, _, L, hb, hL, ha.symm⟩)
    · exact .inl hv'
  · cases hx with
    | slice q1 q2 q3 q4 q5 =>
      rename_i K a cap'
      rw [hL] at q1; injection q1 with q1; subst q1
      have hv2 : VRs (ρ.add L.blk 0 l') ((cs.drop o).take (n * sz)) ((l'.drop o).take (n * sz)) := ((hvr.mono hle).drop _).take _
      have hsc2 : allScalar ((cs.drop o).take (n * sz)) = true := allScalar_iff.2 fun u hu => allScalar_iff.1 hsc u (List.mem_of_mem_drop (List.mem_of_mem_take hu))
      refine .vs (blk := L.blk) (off := o) hv2 hsc2 (by rw [List.length_take, List.length_drop]; omega) q2 q3 q4 ?_ (fun b hb => by cases hb)
      rcases q5 with q5 | ⟨q5, q6⟩
      · exact .inl q5
      · refine .inr ⟨by rw [q5, h3.1, Nat.zero_add], fun i v' hv' => ?_⟩
        have hi : i < n * sz := by
          rcases Nat.lt_or_ge i (n * sz) with q | q
          · exact q
          · rw [List.getElem?_eq_none (by rw [List.length_take]; omega)] at hv'; cases hv'
        rw [List.getElem?_take_of_lt hi, List.getElem?_drop] at hv'
        have := Names.add_at ρ L.blk 0 l' hv'
        rwa [Nat.zero_add] at this
theorem CallS.freeze {f : FuncId} {args : List AV} {st st' : St} {v : AV} (h : CallS P f args st v st') {b : Nat} {cs : List AV} {e : TypeId} (hb : st'.heap.get b = some (.row cs e)) {u : AV}
    (hu : ∀ ρ ρ' : Names, ρ.le ρ' → (∀ o n cap ex sz x, VR ρ (.slice b o n cap ex sz) x → o + n * sz ≤ cs.length → VR ρ' (.vs ((cs.drop o).take (n * sz)) n cap ex none sz) x) → ∀ x, VR ρ v x → VR ρ' u x) : CallS P f args st u (st'.del b) := by
  refine ⟨h.1, fun ρ w args' cs' hH hA => ?_⟩
  obtain ⟨ρ', w', v', fr', G, H, V, s, l⟩ := h.2 ρ w args' cs' hH hA
  obtain ⟨L, hL, _⟩ := H.obj _ _ hb
  obtain ⟨ρ2, H2, G2, k⟩ := H.freeze hb hL
  exact ⟨ρ2, w', v', fr', G.trans G2, H2, hu ρ' ρ2 G2.le k _ V, s, l⟩

/-! States made of others. -/
noncomputable def delL (st : St) : List Nat → St
  | [] => st
  | b :: l => delL (st.del b) l
noncomputable def putL (st : St) : List Nat → List Ob → St
  | b :: bs, o :: os => putL (st.put b o) bs os
  | _, _ => st
noncomputable def newL (st : St) : List Ob → St
  | [] => st
  | o :: l => newL (st.new o) l
theorem delL_get : ∀ (ds : List Nat) (st : St) (b : Nat), (delL st ds).heap.get b = if b ∈ ds then none else st.heap.get b
  | [], st, b => by simp [delL]
  | d :: ds, st, b => by
    rw [delL, delL_get ds]
    have : (st.del d).heap.get b = if b = d then none else st.heap.get b := Tr.get_del ..
    rw [this]
    by_cases h : b ∈ ds
    · simp [h]
    · by_cases h2 : b = d <;> simp [h, h2]
theorem delL_next : ∀ (ds : List Nat) (st : St), (delL st ds).next = st.next ∧ (delL st ds).gl = st.gl
  | [], st => ⟨rfl, rfl⟩
  | d :: ds, st => by rw [delL]; exact delL_next ds (st.del d)
theorem putL_get : ∀ (bs : List Nat) (os : List Ob) (st : St) (b : Nat), bs.Nodup → bs.length = os.length → (putL st bs os).heap.get b = match bs.idxOf? b with | some i => os[i]? | none => st.heap.get b
  | [], [], st, b, _, _ => by simp [putL]
  | [], _ :: _, _, _, _, h => by simp at h
  | _ :: _, [], _, _, _, h => by simp at h
  | c :: bs, o :: os, st, b, hn, hl => by
    obtain ⟨h1, h2⟩ := List.nodup_cons.1 hn
    rw [putL, putL_get bs os _ b h2 (by simpa using hl)]
    have hg : (st.put c o).heap.get b = if b = c then some o else st.heap.get b := Tr.get_set ..
    rw [List.idxOf?_cons]
    by_cases e : c = b
    · subst e
      have : bs.idxOf? c = none := by rw [List.idxOf?_eq_none_iff]; exact h1
      rw [this, hg]
      simp
    · rw [if_neg (by simpa using e)]
      cases hx : bs.idxOf? b with
      | none => rw [hg]; simp [Ne.symm e]
      | some i => simp
theorem putL_next : ∀ (bs : List Nat) (os : List Ob) (st : St), (putL st bs os).next = st.next ∧ (putL st bs os).gl = st.gl
  | [], _, st => ⟨rfl, rfl⟩
  | _ :: _, [], st => ⟨rfl, rfl⟩
  | c :: bs, o :: os, st => by rw [putL]; exact putL_next bs os (st.put c o)
theorem newL_next : ∀ (ns : List Ob) (st : St), (newL st ns).next = st.next + ns.length ∧ (newL st ns).gl = st.gl
  | [], st => ⟨rfl, rfl⟩
  | o :: ns, st => by
    rw [newL]
    obtain ⟨h1, h2⟩ := newL_next ns (st.new o)
    exact ⟨by rw [h1]; show st.next + 1 + ns.length = _; simp; omega, h2⟩
theorem newL_get : ∀ (ns : List Ob) (st : St) (b : Nat) (o : Ob), (newL st ns).heap.get b = some o → (∃ j, b = st.next + j ∧ ns[j]? = some o) ∨ st.heap.get b = some o
  | [], st, b, o, h => .inr h
  | x :: ns, st, b, o, h => by
    rw [newL] at h
    rcases newL_get ns (st.new x) b o h with ⟨j, h1, h2⟩ | h
    · exact .inl ⟨j + 1, by rw [h1]; show st.next + 1 + j = _; omega, by simpa using h2⟩
    · have hg : (st.heap.set st.next x).get b = some o := h
      rw [Tr.get_set] at hg
      by_cases e : b = st.next
      · rw [if_pos e] at hg
        exact .inl ⟨0, by omega, by simpa using hg⟩
      · rw [if_neg e] at hg; exact .inr hg
/-- The part's heap: first what keeps its names (bs), then what does not (ds). -/
noncomputable def heapL (k : Nat) : List Ob → List (Nat × Ob)
  | [] => []
  | o :: l => (k, o) :: heapL (k + 1) l
theorem heapL_mem : ∀ {l : List Ob} {k b : Nat} {o : Ob}, (b, o) ∈ heapL k l → k ≤ b ∧ l[b - k]? = some o
  | [], k, b, o, h => by simp [heapL] at h
  | x :: l, k, b, o, h => by
    rcases List.mem_cons.1 h with h | h
    · injection h with h1 h2; subst h1; subst h2; simp
    · obtain ⟨h1, h2⟩ := heapL_mem h
      refine ⟨by omega, ?_⟩
      rw [show b - k = (b - (k + 1)) + 1 by omega]; simpa using h2
theorem heapL_get : ∀ {l : List Ob} {k b : Nat} {o : Ob}, (mkT (heapL k l)).get b = some o → k ≤ b ∧ l[b - k]? = some o := fun h => heapL_mem (mkT_get h)
theorem heapL_at : ∀ {l : List Ob} {k i : Nat} {o : Ob}, l[i]? = some o → (mkT (heapL k l)).get (k + i) = some o
  | [], k, i, o, h => by simp at h
  | x :: l, k, 0, o, h => by
    simp only [heapL, mkT, Nat.add_zero]
    rw [Tr.get_set, if_pos rfl]; simpa using h
  | x :: l, k, i + 1, o, h => by
    simp only [heapL, mkT]
    rw [Tr.get_set, if_neg (by omega), show k + (i + 1) = (k + 1) + i by omega]
    exact heapL_at (by simpa using h)
noncomputable def stL (vm : Bool) (l : List Ob) (gl : Tr (List AV) := .leaf) (rw : TypeId → Bool := fun _ => false) : St := { heap := mkT (heapL 0 l), next := l.length, vm := vm, gl := gl, rw := rw }
theorem glLeaf {X : Nat → List AV → Prop} : ∀ g l, (Tr.leaf : Tr (List AV)).get g = some l → X g l := fun g l h => by simp [Tr.get] at h
/-- Where the part's names lie. -/
def tauL (l : List Nat) (b : Nat) : Nat := l.getD b 0
theorem tauL_at {l : List Nat} {b x : Nat} (h : l[b]? = some x) : tauL l b = x := by simp [tauL, h]
theorem Part.of {st : St} {vm : Bool} {N : Nat} {l : List Nat} {os : List Ob} {gl : Tr (List AV)} {rw' : TypeId → Bool} (hgl : ∀ g l, gl.get g = some l → st.gl.get g = some l ∧ AV.frees l = true) (hl : l.length = os.length) (hn : l.Nodup) (hg : ∀ (i : Nat) (b : Nat) (o : Ob), l[i]? = some b → os[i]? = some o → (∃ o', st.heap.get b = some o' ∧ WkO o' (o.ren (tauL l))) ∧ o.under os.length) :
    Part N (tauL l) st (stL vm os gl rw') := by
  refine ⟨fun b o hb => ?_, fun b b' h h' e => ?_, hgl⟩
  · obtain ⟨_, h2⟩ := heapL_get hb
    rw [Nat.sub_zero] at h2
    have hlt : b < os.length := by
      rcases Nat.lt_or_ge b os.length with q | q
      · exact q
      · rw [List.getElem?_eq_none q] at h2; cases h2
    have hx : l[b]? = some l[b] := List.getElem?_eq_getElem (by omega)
    obtain ⟨h3, h4⟩ := hg b _ o hx h2
    exact ⟨hlt, by rw [tauL_at hx]; exact h3, h4⟩
  · have h1 : b < l.length := by rw [hl]; exact h
    have h2 : b' < l.length := by rw [hl]; exact h'
    rw [tauL_at (List.getElem?_eq_getElem h1), tauL_at (List.getElem?_eq_getElem h2)] at e
    exact (List.getElem_inj hn).1 e
theorem Whole.of {st : St} {vm vm' : Bool} {gl gl' : Tr (List AV)} {rw' rw2 : TypeId → Bool} {bs ds : List Nat} {os ps ns ps' ns' : List Ob} (hb : bs.length = ps.length) (hbd : (bs ++ ds).Nodup) (hos : os.length = bs.length + ds.length)
    (hp : ∀ (i : Nat) (o o' : Ob), ps[i]? = some o → ps'[i]? = some o' → WkO (o.ren (shift (tauL (bs ++ ds)) bs.length st.next)) o') (hpl : ps.length = ps'.length)
    (hn : ∀ (i : Nat) (o o' : Ob), ns[i]? = some o → ns'[i]? = some o' → WkO (o.ren (shift (tauL (bs ++ ds)) bs.length st.next)) o') (hnl : ns.length = ns'.length) :
    Whole bs.length (tauL (bs ++ ds)) st (stL vm os gl rw') (stL vm' (ps ++ ns) gl' rw2) (newL (putL (delL st ds) bs ps') ns') := by
  have hbn : bs.Nodup := (List.nodup_append.1 hbd).1
  refine ⟨?_, by show bs.length ≤ (ps ++ ns).length; simp; omega, ?_, fun b o h => ?_⟩
  · rw [(newL_next _ _).1, (putL_next _ _ _).1, (delL_next _ _).1]
    show _ = st.next + ((ps ++ ns).length - bs.length)
    simp; omega
  · rw [(newL_next _ _).2, (putL_next _ _ _).2, (delL_next _ _).2]
  · rcases newL_get _ _ _ _ h with ⟨j, h1, h2⟩ | h
    · left
      rw [(putL_next _ _ _).1, (delL_next _ _).1] at h1
      have hj : j < ns.length := by
        rcases Nat.lt_or_ge j ns.length with q | q
        · exact q
        · rw [List.getElem?_eq_none (by omega)] at h2; cases h2
      refine ⟨bs.length + j, ns[j], ?_, ?_, hn j _ _ (List.getElem?_eq_getElem hj) h2⟩
      · rw [shift, if_neg (by omega), h1]; omega
      · have : (ps ++ ns)[bs.length + j]? = some ns[j] := by rw [List.getElem?_append_right (by omega), show bs.length + j - ps.length = j by omega]; exact List.getElem?_eq_getElem hj
        have := heapL_at (k := 0) this
        rwa [Nat.zero_add] at this
    · rw [putL_get _ _ _ _ hbn (by omega)] at h
      cases hx : bs.idxOf? b with
      | some i =>
        rw [hx] at h
        left
        have hi : i < bs.length ∧ bs[i]? = some b := by
          have h9 := List.findIdx?_eq_some_iff_getElem.1 (show List.findIdx? (fun a => a == b) bs = some i from by simpa [List.idxOf?] using hx)
          obtain ⟨h10, h11, _⟩ := h9
          exact ⟨h10, by rw [List.getElem?_eq_getElem h10]; simpa using h11⟩
        refine ⟨i, ps[i]'(by omega), ?_, ?_, hp i _ _ (List.getElem?_eq_getElem (by omega)) h⟩
        · rw [shift, if_pos hi.1, tauL_at (by rw [List.getElem?_append_left hi.1]; exact hi.2)]
        · have : (ps ++ ns)[i]? = some (ps[i]'(by omega)) := by rw [List.getElem?_append_left (by omega)]; exact List.getElem?_eq_getElem (by omega)
          have := heapL_at (k := 0) this
          rwa [Nat.zero_add] at this
      | none =>
        rw [hx] at h
        right
        have h' : (delL st ds).heap.get b = some o := h
        rw [delL_get] at h'
        have hbs : b ∉ bs := by rw [List.idxOf?_eq_none_iff] at hx; exact hx
        by_cases hd : b ∈ ds
        · rw [if_pos hd] at h'; cases h'
        · rw [if_neg hd] at h'
          refine ⟨h', fun b0 o0 h0 e => ?_⟩
          obtain ⟨_, h2⟩ := heapL_get h0
          have hlt : b0 < os.length := by
            rcases Nat.lt_or_ge b0 os.length with q | q
            · exact q
            · rw [Nat.sub_zero, List.getElem?_eq_none q] at h2; cases h2
          have hx2 : (bs ++ ds)[b0]? = some ((bs ++ ds)[b0]'(by simp; omega)) := List.getElem?_eq_getElem _
          rw [tauL_at hx2] at e
          have : b ∈ bs ++ ds := by rw [← e]; exact List.getElem_mem _
          rcases List.mem_append.1 this with q | q
          · exact hbs q
          · exact hd q

end Go.Det
