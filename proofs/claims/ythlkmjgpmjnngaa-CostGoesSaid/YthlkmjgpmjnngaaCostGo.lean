/- The loop of CostGoes: what a round does, and that the numbers hold together. -/
import Derived.Test.YthlkmjgpmjnngaaCostVals
import Derived.Test.YthlkmjgpmjnngaaDvLoop
set_option linter.unusedVariables false
set_option linter.unusedSimpArgs false
namespace Go.Proofs.Ythlkmjgpmjnngaa
open Go.Det Go.RowKit

structure Z where
  i : Int
  pts : Int
  tr : Bool
  hd : Bool
  us : Int
  x : L
noncomputable def goT (a1 : AV) (lim : Int) (z : Z) : Tr AV := mkT [(1, a1), (2, .ptr 0 0), (5, .ptr 1 0), (6, iA 0), (7, iA lim), (8, iA z.pts), (9, bA z.tr), (10, bA z.hd), (11, iA z.us), (12, iA z.i)]
noncomputable def goSt (c : C) (z : Z) : St := { heap := mkT [(0, .row (cA c).cells 23), (1, .row (lA z.x).cells 33)], next := 8 }
def onIw (v : AV) (k : Int → Prop) : Prop := match v with | .int .i64 n => k n | _ => False
def onBw (v : AV) (k : Bool → Prop) : Prop := match v with | .bool n => k n | _ => False
def onLw (o : Ob) (k : L → Prop) : Prop := match o with | .row [.int .i64 b, .int .i64 g, .int .i64 s] 33 => k ⟨b, g, s⟩ | _ => False
def noD (D : List ADef) : Prop := match D with | [] => True | _ => False
noncomputable def goRd (c : C) (a1 : AV) (lim : Int) (T : Tr AV) (D : List ADef) (st : St) (k : Z → Prop) : Prop :=
  (noD D ∧ T.get 1 = some a1 ∧ T.get 2 = some (.ptr 0 0) ∧ T.get 5 = some (.ptr 1 0) ∧ T.get 6 = some (iA 0) ∧ T.get 7 = some (iA lim) ∧ st.heap.get 0 = some (.row (cA c).cells 23)) ∧
  obW (T.get 8) fun v => onIw v fun pts => obW (T.get 9) fun v => onBw v fun tr => obW (T.get 10) fun v => onBw v fun hd => obW (T.get 11) fun v => onIw v fun us => obW (T.get 12) fun v => onIw v fun i =>
  obW (st.heap.get 1) fun o => onLw o fun x => k ⟨i, pts, tr, hd, us, x⟩
noncomputable def goPost (c : C) (a1 : AV) (lim : Int) (N : Z → Prop) (E : Nat → Prop) (o : Out) : Prop :=
  Out.rec (fun e T D st => Ex.rec (goRd c a1 lim T D st N) (fun i => (noD D ∧ T.get 6 = some (iA 0)) ∧ E i) False e) o
theorem goBody (c : C) (sl : List AV) (n cap : Nat) (lim : Int) (z : Z) (N : Z → Prop) (E : Nat → Prop) : ((runW Try.prog (KV ftA) 200).code none 5 194 (loopBody Try.prog 5 10) (goT (.vs sl n cap true none 1) lim z) [] (goSt c z) (goPost c (.vs sl n cap true none 1) lim N E)) =
  (ifp (!leInt (Int.ofNat n) z.i)
    (idxOk z.i n ∧
      ∃ (x : Int),
        nth ((natOf z.i).mul (1 : Nat)) sl = some (AV.int IntKind.i64 x) ∧
          (5 : Int) ≠ (0 : Int) ∧
            ifp (eqInt (x.tmod (5 : Int)) (0 : Int))
              (ifp (eqInt z.pts c.r)
                ((True ∧
                    some (AV.vs sl n cap true none (1 : Nat)) = some (AV.vs sl n cap true none (1 : Nat)) ∧
                      some (AV.ptr (0 : Nat) (0 : Nat)) = some (AV.ptr (0 : Nat) (0 : Nat)) ∧
                        some (AV.ptr (1 : Nat) (0 : Nat)) = some (AV.ptr (1 : Nat) (0 : Nat)) ∧
                          some (AV.int IntKind.i64 (0 : Int)) = some (AV.int IntKind.i64 (0 : Int)) ∧
                            some (AV.int IntKind.i64 lim) = some (AV.int IntKind.i64 lim) ∧
                              some
                                  (Ob.row
                                    [AV.int IntKind.i64 c.d, AV.int IntKind.i64 c.p, AV.int IntKind.i64 c.w,
                                      AV.int IntKind.i64 c.l, AV.int IntKind.i64 c.r, AV.int IntKind.i64 c.i,
                                      AV.int IntKind.i64 c.q, AV.int IntKind.i64 c.s]
                                    (23 : Nat)) =
                                some
                                  (Ob.row
                                    [AV.int IntKind.i64 c.d, AV.int IntKind.i64 c.p, AV.int IntKind.i64 c.w,
                                      AV.int IntKind.i64 c.l, AV.int IntKind.i64 c.r, AV.int IntKind.i64 c.i,
                                      AV.int IntKind.i64 c.q, AV.int IntKind.i64 c.s]
                                    (23 : Nat))) ∧
                  N
                    { i := wrapF IntKind.i64 (z.i.add (1 : Int)), pts := z.pts, tr := z.tr, hd := z.hd, us := z.us,
                      x := z.x : Z })
                (ifp
                  (eqInt
                    (may c
                      z.x
                      (ins c))
                    (7 : Int))
                  (ifp
                    (leInt
                      (wrapF IntKind.i64
                        (z.us.add
                          (ins c)))
                      lim)
                    False
                    (idxOk z.i n ∧
                      ∃ (x : Int),
                        nth ((natOf z.i).mul (1 : Nat)) sl = some (AV.int IntKind.i64 x) ∧
                          (5 : Int) ≠ (0 : Int) ∧
                            ifp (eqInt (x.tmod (5 : Int)) (0 : Int))
                              ((True ∧
                                  some (AV.vs sl n cap true none (1 : Nat)) =
                                      some (AV.vs sl n cap true none (1 : Nat)) ∧
                                    some (AV.ptr (0 : Nat) (0 : Nat)) = some (AV.ptr (0 : Nat) (0 : Nat)) ∧
                                      some (AV.ptr (1 : Nat) (0 : Nat)) = some (AV.ptr (1 : Nat) (0 : Nat)) ∧
                                        some (AV.int IntKind.i64 (0 : Int)) = some (AV.int IntKind.i64 (0 : Int)) ∧
                                          some (AV.int IntKind.i64 lim) = some (AV.int IntKind.i64 lim) ∧
                                            some
                                                (Ob.row
                                                  [AV.int IntKind.i64 c.d, AV.int IntKind.i64 c.p,
                                                    AV.int IntKind.i64 c.w, AV.int IntKind.i64 c.l,
                                                    AV.int IntKind.i64 c.r, AV.int IntKind.i64 c.i,
                                                    AV.int IntKind.i64 c.q, AV.int IntKind.i64 c.s]
                                                  (23 : Nat)) =
                                              some
                                                (Ob.row
                                                  [AV.int IntKind.i64 c.d, AV.int IntKind.i64 c.p,
                                                    AV.int IntKind.i64 c.w, AV.int IntKind.i64 c.l,
                                                    AV.int IntKind.i64 c.r, AV.int IntKind.i64 c.i,
                                                    AV.int IntKind.i64 c.q, AV.int IntKind.i64 c.s]
                                                  (23 : Nat))) ∧
                                N
                                  { i := wrapF IntKind.i64 (z.i.add (1 : Int)),
                                    pts := wrapF IntKind.i64 ((wrapF IntKind.i64 (z.pts.add (1 : Int))).sub (1 : Int)),
                                    tr := z.tr, hd := z.hd, us := z.us,
                                    x := z.x : Z })
                              (ifp (eqInt (x.tmod (5 : Int)) (1 : Int))
                                ((True ∧
                                    some (AV.vs sl n cap true none (1 : Nat)) =
                                        some (AV.vs sl n cap true none (1 : Nat)) ∧
                                      some (AV.ptr (0 : Nat) (0 : Nat)) = some (AV.ptr (0 : Nat) (0 : Nat)) ∧
                                        some (AV.ptr (1 : Nat) (0 : Nat)) = some (AV.ptr (1 : Nat) (0 : Nat)) ∧
                                          some (AV.int IntKind.i64 (0 : Int)) = some (AV.int IntKind.i64 (0 : Int)) ∧
                                            some (AV.int IntKind.i64 lim) = some (AV.int IntKind.i64 lim) ∧
                                              some
                                                  (Ob.row
                                                    [AV.int IntKind.i64 c.d, AV.int IntKind.i64 c.p,
                                                      AV.int IntKind.i64 c.w, AV.int IntKind.i64 c.l,
                                                      AV.int IntKind.i64 c.r, AV.int IntKind.i64 c.i,
                                                      AV.int IntKind.i64 c.q, AV.int IntKind.i64 c.s]
                                                    (23 : Nat)) =
                                                some
                                                  (Ob.row
                                                    [AV.int IntKind.i64 c.d, AV.int IntKind.i64 c.p,
                                                      AV.int IntKind.i64 c.w, AV.int IntKind.i64 c.l,
                                                      AV.int IntKind.i64 c.r, AV.int IntKind.i64 c.i,
                                                      AV.int IntKind.i64 c.q, AV.int IntKind.i64 c.s]
                                                    (23 : Nat))) ∧
                                  N
                                    { i := wrapF IntKind.i64 (z.i.add (1 : Int)),
                                      pts :=
                                        wrapF IntKind.i64 ((wrapF IntKind.i64 (z.pts.add (1 : Int))).sub (1 : Int)),
                                      tr := z.tr, hd := z.hd, us := z.us,
                                      x := z.x : Z })
                                (ifp (eqInt (x.tmod (5 : Int)) (2 : Int))
                                  ((True ∧
                                      some (AV.vs sl n cap true none (1 : Nat)) =
                                          some (AV.vs sl n cap true none (1 : Nat)) ∧
                                        some (AV.ptr (0 : Nat) (0 : Nat)) = some (AV.ptr (0 : Nat) (0 : Nat)) ∧
                                          some (AV.ptr (1 : Nat) (0 : Nat)) = some (AV.ptr (1 : Nat) (0 : Nat)) ∧
                                            some (AV.int IntKind.i64 (0 : Int)) = some (AV.int IntKind.i64 (0 : Int)) ∧
                                              some (AV.int IntKind.i64 lim) = some (AV.int IntKind.i64 lim) ∧
                                                some
                                                    (Ob.row
                                                      [AV.int IntKind.i64 c.d, AV.int IntKind.i64 c.p,
                                                        AV.int IntKind.i64 c.w, AV.int IntKind.i64 c.l,
                                                        AV.int IntKind.i64 c.r, AV.int IntKind.i64 c.i,
                                                        AV.int IntKind.i64 c.q, AV.int IntKind.i64 c.s]
                                                      (23 : Nat)) =
                                                  some
                                                    (Ob.row
                                                      [AV.int IntKind.i64 c.d, AV.int IntKind.i64 c.p,
                                                        AV.int IntKind.i64 c.w, AV.int IntKind.i64 c.l,
                                                        AV.int IntKind.i64 c.r, AV.int IntKind.i64 c.i,
                                                        AV.int IntKind.i64 c.q, AV.int IntKind.i64 c.s]
                                                      (23 : Nat))) ∧
                                    N
                                      { i := wrapF IntKind.i64 (z.i.add (1 : Int)),
                                        pts :=
                                          wrapF IntKind.i64 ((wrapF IntKind.i64 (z.pts.add (1 : Int))).add (1 : Int)),
                                        tr := z.tr, hd := z.hd, us := z.us,
                                        x := z.x : Z })
                                  ((True ∧
                                      some (AV.vs sl n cap true none (1 : Nat)) =
                                          some (AV.vs sl n cap true none (1 : Nat)) ∧
                                        some (AV.ptr (0 : Nat) (0 : Nat)) = some (AV.ptr (0 : Nat) (0 : Nat)) ∧
                                          some (AV.ptr (1 : Nat) (0 : Nat)) = some (AV.ptr (1 : Nat) (0 : Nat)) ∧
                                            some (AV.int IntKind.i64 (0 : Int)) = some (AV.int IntKind.i64 (0 : Int)) ∧
                                              some (AV.int IntKind.i64 lim) = some (AV.int IntKind.i64 lim) ∧
                                                some
                                                    (Ob.row
                                                      [AV.int IntKind.i64 c.d, AV.int IntKind.i64 c.p,
                                                        AV.int IntKind.i64 c.w, AV.int IntKind.i64 c.l,
                                                        AV.int IntKind.i64 c.r, AV.int IntKind.i64 c.i,
                                                        AV.int IntKind.i64 c.q, AV.int IntKind.i64 c.s]
                                                      (23 : Nat)) =
                                                  some
                                                    (Ob.row
                                                      [AV.int IntKind.i64 c.d, AV.int IntKind.i64 c.p,
                                                        AV.int IntKind.i64 c.w, AV.int IntKind.i64 c.l,
                                                        AV.int IntKind.i64 c.r, AV.int IntKind.i64 c.i,
                                                        AV.int IntKind.i64 c.q, AV.int IntKind.i64 c.s]
                                                      (23 : Nat))) ∧
                                    N
                                      { i := wrapF IntKind.i64 (z.i.add (1 : Int)),
                                        pts := wrapF IntKind.i64 (z.pts.add (1 : Int)), tr := z.tr, hd := false,
                                        us := z.us, x := z.x : Z })))))
                  (ifp
                    (!eqInt
                        (may c
                          z.x
                          (ins c))
                        (0 : Int))
                    False
                    (ifp
                      (!eqInt
                          (used
                            {
                              b :=
                                (lgdL
                                    c
                                    z.x
                                    (ins
                                      c)).b,
                              g :=
                                (lgdL
                                    c
                                    z.x
                                    (ins
                                      c)).g,
                              s :=
                                (lgdL
                                    c
                                    z.x
                                    (ins
                                      c)).s : L })
                          (wrapF IntKind.i64
                            (z.us.add
                              (ins
                                c))))
                      False
                      (ifp
                        (!leInt
                            (wrapF IntKind.i64
                              (z.us.add
                                (ins
                                  c)))
                            lim)
                        False
                        (ifp
                          (!eqInt
                              (rst
                                c
                                {
                                  b :=
                                    (lgdL
                                        c
                                        z.x
                                        (ins
                                          c)).b,
                                  g :=
                                    (lgdL
                                        c
                                        z.x
                                        (ins
                                          c)).g,
                                  s :=
                                    (lgdL
                                        c
                                        z.x
                                        (ins
                                          c)).s : L })
                              (wrapF IntKind.i64
                                (lim.sub
                                  (wrapF IntKind.i64
                                    (z.us.add
                                      (ins
                                        c))))))
                          False
                          (ifp
                            (!leInt
                                (lgdL
                                    c
                                    z.x
                                    (ins
                                      c)).s
                                (0 : Int))
                            (ifp z.hd
                              ((True ∧
                                  some (AV.vs sl n cap true none (1 : Nat)) =
                                      some (AV.vs sl n cap true none (1 : Nat)) ∧
                                    some (AV.ptr (0 : Nat) (0 : Nat)) = some (AV.ptr (0 : Nat) (0 : Nat)) ∧
                                      some (AV.ptr (1 : Nat) (0 : Nat)) = some (AV.ptr (1 : Nat) (0 : Nat)) ∧
                                        some (AV.int IntKind.i64 (0 : Int)) = some (AV.int IntKind.i64 (0 : Int)) ∧
                                          some (AV.int IntKind.i64 lim) = some (AV.int IntKind.i64 lim) ∧
                                            some
                                                (Ob.row
                                                  [AV.int IntKind.i64 c.d, AV.int IntKind.i64 c.p,
                                                    AV.int IntKind.i64 c.w, AV.int IntKind.i64 c.l,
                                                    AV.int IntKind.i64 c.r, AV.int IntKind.i64 c.i,
                                                    AV.int IntKind.i64 c.q, AV.int IntKind.i64 c.s]
                                                  (23 : Nat)) =
                                              some
                                                (Ob.row
                                                  [AV.int IntKind.i64 c.d, AV.int IntKind.i64 c.p,
                                                    AV.int IntKind.i64 c.w, AV.int IntKind.i64 c.l,
                                                    AV.int IntKind.i64 c.r, AV.int IntKind.i64 c.i,
                                                    AV.int IntKind.i64 c.q, AV.int IntKind.i64 c.s]
                                                  (23 : Nat))) ∧
                                N
                                  { i := wrapF IntKind.i64 (z.i.add (1 : Int)),
                                    pts := wrapF IntKind.i64 (z.pts.add (1 : Int)), tr := z.tr, hd := z.hd,
                                    us :=
                                      wrapF IntKind.i64
                                        (z.us.add
                                          (ins
                                            c)),
                                    x :=
                                      {
                                        b :=
                                          (lgdL
                                              c
                                              z.x
                                              (ins
                                                c)).b,
                                        g :=
                                          (lgdL
                                              c
                                              z.x
                                              (ins
                                                c)).g,
                                        s :=
                                          (lgdL
                                              c
                                              z.x
                                              (ins
                                                c)).s : L } :
                                    Z })
                              False)
                            (ifp z.hd False
                              ((True ∧
                                  some (AV.vs sl n cap true none (1 : Nat)) =
                                      some (AV.vs sl n cap true none (1 : Nat)) ∧
                                    some (AV.ptr (0 : Nat) (0 : Nat)) = some (AV.ptr (0 : Nat) (0 : Nat)) ∧
                                      some (AV.ptr (1 : Nat) (0 : Nat)) = some (AV.ptr (1 : Nat) (0 : Nat)) ∧
                                        some (AV.int IntKind.i64 (0 : Int)) = some (AV.int IntKind.i64 (0 : Int)) ∧
                                          some (AV.int IntKind.i64 lim) = some (AV.int IntKind.i64 lim) ∧
                                            some
                                                (Ob.row
                                                  [AV.int IntKind.i64 c.d, AV.int IntKind.i64 c.p,
                                                    AV.int IntKind.i64 c.w, AV.int IntKind.i64 c.l,
                                                    AV.int IntKind.i64 c.r, AV.int IntKind.i64 c.i,
                                                    AV.int IntKind.i64 c.q, AV.int IntKind.i64 c.s]
                                                  (23 : Nat)) =
                                              some
                                                (Ob.row
                                                  [AV.int IntKind.i64 c.d, AV.int IntKind.i64 c.p,
                                                    AV.int IntKind.i64 c.w, AV.int IntKind.i64 c.l,
                                                    AV.int IntKind.i64 c.r, AV.int IntKind.i64 c.i,
                                                    AV.int IntKind.i64 c.q, AV.int IntKind.i64 c.s]
                                                  (23 : Nat))) ∧
                                N
                                  { i := wrapF IntKind.i64 (z.i.add (1 : Int)),
                                    pts := wrapF IntKind.i64 (z.pts.add (1 : Int)), tr := z.tr, hd := z.hd,
                                    us :=
                                      wrapF IntKind.i64
                                        (z.us.add
                                          (ins
                                            c)),
                                    x :=
                                      {
                                        b :=
                                          (lgdL
                                              c
                                              z.x
                                              (ins
                                                c)).b,
                                        g :=
                                          (lgdL
                                              c
                                              z.x
                                              (ins
                                                c)).g,
                                        s :=
                                          (lgdL
                                              c
                                              z.x
                                              (ins
                                                c)).s : L } :
                                    Z })))))))))
              (ifp (eqInt (x.tmod (5 : Int)) (1 : Int))
                (ifp (eqInt z.pts c.r)
                  ((True ∧
                      some (AV.vs sl n cap true none (1 : Nat)) = some (AV.vs sl n cap true none (1 : Nat)) ∧
                        some (AV.ptr (0 : Nat) (0 : Nat)) = some (AV.ptr (0 : Nat) (0 : Nat)) ∧
                          some (AV.ptr (1 : Nat) (0 : Nat)) = some (AV.ptr (1 : Nat) (0 : Nat)) ∧
                            some (AV.int IntKind.i64 (0 : Int)) = some (AV.int IntKind.i64 (0 : Int)) ∧
                              some (AV.int IntKind.i64 lim) = some (AV.int IntKind.i64 lim) ∧
                                some
                                    (Ob.row
                                      [AV.int IntKind.i64 c.d, AV.int IntKind.i64 c.p, AV.int IntKind.i64 c.w,
                                        AV.int IntKind.i64 c.l, AV.int IntKind.i64 c.r, AV.int IntKind.i64 c.i,
                                        AV.int IntKind.i64 c.q, AV.int IntKind.i64 c.s]
                                      (23 : Nat)) =
                                  some
                                    (Ob.row
                                      [AV.int IntKind.i64 c.d, AV.int IntKind.i64 c.p, AV.int IntKind.i64 c.w,
                                        AV.int IntKind.i64 c.l, AV.int IntKind.i64 c.r, AV.int IntKind.i64 c.i,
                                        AV.int IntKind.i64 c.q, AV.int IntKind.i64 c.s]
                                      (23 : Nat))) ∧
                    N
                      { i := wrapF IntKind.i64 (z.i.add (1 : Int)), pts := z.pts, tr := z.tr, hd := z.hd, us := z.us,
                        x := z.x : Z })
                  (ifp
                    (eqInt
                      (may c
                        z.x
                        (ins c))
                      (7 : Int))
                    (ifp
                      (leInt
                        (wrapF IntKind.i64
                          (z.us.add
                            (ins
                              c)))
                        lim)
                      False
                      (idxOk z.i n ∧
                        ∃ (x : Int),
                          nth ((natOf z.i).mul (1 : Nat)) sl = some (AV.int IntKind.i64 x) ∧
                            (5 : Int) ≠ (0 : Int) ∧
                              ifp (eqInt (x.tmod (5 : Int)) (0 : Int))
                                ((True ∧
                                    some (AV.vs sl n cap true none (1 : Nat)) =
                                        some (AV.vs sl n cap true none (1 : Nat)) ∧
                                      some (AV.ptr (0 : Nat) (0 : Nat)) = some (AV.ptr (0 : Nat) (0 : Nat)) ∧
                                        some (AV.ptr (1 : Nat) (0 : Nat)) = some (AV.ptr (1 : Nat) (0 : Nat)) ∧
                                          some (AV.int IntKind.i64 (0 : Int)) = some (AV.int IntKind.i64 (0 : Int)) ∧
                                            some (AV.int IntKind.i64 lim) = some (AV.int IntKind.i64 lim) ∧
                                              some
                                                  (Ob.row
                                                    [AV.int IntKind.i64 c.d, AV.int IntKind.i64 c.p,
                                                      AV.int IntKind.i64 c.w, AV.int IntKind.i64 c.l,
                                                      AV.int IntKind.i64 c.r, AV.int IntKind.i64 c.i,
                                                      AV.int IntKind.i64 c.q, AV.int IntKind.i64 c.s]
                                                    (23 : Nat)) =
                                                some
                                                  (Ob.row
                                                    [AV.int IntKind.i64 c.d, AV.int IntKind.i64 c.p,
                                                      AV.int IntKind.i64 c.w, AV.int IntKind.i64 c.l,
                                                      AV.int IntKind.i64 c.r, AV.int IntKind.i64 c.i,
                                                      AV.int IntKind.i64 c.q, AV.int IntKind.i64 c.s]
                                                    (23 : Nat))) ∧
                                  N
                                    { i := wrapF IntKind.i64 (z.i.add (1 : Int)),
                                      pts :=
                                        wrapF IntKind.i64 ((wrapF IntKind.i64 (z.pts.add (1 : Int))).sub (1 : Int)),
                                      tr := z.tr, hd := z.hd, us := z.us,
                                      x := z.x : Z })
                                (ifp (eqInt (x.tmod (5 : Int)) (1 : Int))
                                  ((True ∧
                                      some (AV.vs sl n cap true none (1 : Nat)) =
                                          some (AV.vs sl n cap true none (1 : Nat)) ∧
                                        some (AV.ptr (0 : Nat) (0 : Nat)) = some (AV.ptr (0 : Nat) (0 : Nat)) ∧
                                          some (AV.ptr (1 : Nat) (0 : Nat)) = some (AV.ptr (1 : Nat) (0 : Nat)) ∧
                                            some (AV.int IntKind.i64 (0 : Int)) = some (AV.int IntKind.i64 (0 : Int)) ∧
                                              some (AV.int IntKind.i64 lim) = some (AV.int IntKind.i64 lim) ∧
                                                some
                                                    (Ob.row
                                                      [AV.int IntKind.i64 c.d, AV.int IntKind.i64 c.p,
                                                        AV.int IntKind.i64 c.w, AV.int IntKind.i64 c.l,
                                                        AV.int IntKind.i64 c.r, AV.int IntKind.i64 c.i,
                                                        AV.int IntKind.i64 c.q, AV.int IntKind.i64 c.s]
                                                      (23 : Nat)) =
                                                  some
                                                    (Ob.row
                                                      [AV.int IntKind.i64 c.d, AV.int IntKind.i64 c.p,
                                                        AV.int IntKind.i64 c.w, AV.int IntKind.i64 c.l,
                                                        AV.int IntKind.i64 c.r, AV.int IntKind.i64 c.i,
                                                        AV.int IntKind.i64 c.q, AV.int IntKind.i64 c.s]
                                                      (23 : Nat))) ∧
                                    N
                                      { i := wrapF IntKind.i64 (z.i.add (1 : Int)),
                                        pts :=
                                          wrapF IntKind.i64 ((wrapF IntKind.i64 (z.pts.add (1 : Int))).sub (1 : Int)),
                                        tr := z.tr, hd := z.hd, us := z.us,
                                        x := z.x : Z })
                                  (ifp (eqInt (x.tmod (5 : Int)) (2 : Int))
                                    ((True ∧
                                        some (AV.vs sl n cap true none (1 : Nat)) =
                                            some (AV.vs sl n cap true none (1 : Nat)) ∧
                                          some (AV.ptr (0 : Nat) (0 : Nat)) = some (AV.ptr (0 : Nat) (0 : Nat)) ∧
                                            some (AV.ptr (1 : Nat) (0 : Nat)) = some (AV.ptr (1 : Nat) (0 : Nat)) ∧
                                              some (AV.int IntKind.i64 (0 : Int)) =
                                                  some (AV.int IntKind.i64 (0 : Int)) ∧
                                                some (AV.int IntKind.i64 lim) = some (AV.int IntKind.i64 lim) ∧
                                                  some
                                                      (Ob.row
                                                        [AV.int IntKind.i64 c.d, AV.int IntKind.i64 c.p,
                                                          AV.int IntKind.i64 c.w, AV.int IntKind.i64 c.l,
                                                          AV.int IntKind.i64 c.r, AV.int IntKind.i64 c.i,
                                                          AV.int IntKind.i64 c.q, AV.int IntKind.i64 c.s]
                                                        (23 : Nat)) =
                                                    some
                                                      (Ob.row
                                                        [AV.int IntKind.i64 c.d, AV.int IntKind.i64 c.p,
                                                          AV.int IntKind.i64 c.w, AV.int IntKind.i64 c.l,
                                                          AV.int IntKind.i64 c.r, AV.int IntKind.i64 c.i,
                                                          AV.int IntKind.i64 c.q, AV.int IntKind.i64 c.s]
                                                        (23 : Nat))) ∧
                                      N
                                        { i := wrapF IntKind.i64 (z.i.add (1 : Int)),
                                          pts :=
                                            wrapF IntKind.i64 ((wrapF IntKind.i64 (z.pts.add (1 : Int))).add (1 : Int)),
                                          tr := z.tr, hd := z.hd, us := z.us,
                                          x := z.x : Z })
                                    ((True ∧
                                        some (AV.vs sl n cap true none (1 : Nat)) =
                                            some (AV.vs sl n cap true none (1 : Nat)) ∧
                                          some (AV.ptr (0 : Nat) (0 : Nat)) = some (AV.ptr (0 : Nat) (0 : Nat)) ∧
                                            some (AV.ptr (1 : Nat) (0 : Nat)) = some (AV.ptr (1 : Nat) (0 : Nat)) ∧
                                              some (AV.int IntKind.i64 (0 : Int)) =
                                                  some (AV.int IntKind.i64 (0 : Int)) ∧
                                                some (AV.int IntKind.i64 lim) = some (AV.int IntKind.i64 lim) ∧
                                                  some
                                                      (Ob.row
                                                        [AV.int IntKind.i64 c.d, AV.int IntKind.i64 c.p,
                                                          AV.int IntKind.i64 c.w, AV.int IntKind.i64 c.l,
                                                          AV.int IntKind.i64 c.r, AV.int IntKind.i64 c.i,
                                                          AV.int IntKind.i64 c.q, AV.int IntKind.i64 c.s]
                                                        (23 : Nat)) =
                                                    some
                                                      (Ob.row
                                                        [AV.int IntKind.i64 c.d, AV.int IntKind.i64 c.p,
                                                          AV.int IntKind.i64 c.w, AV.int IntKind.i64 c.l,
                                                          AV.int IntKind.i64 c.r, AV.int IntKind.i64 c.i,
                                                          AV.int IntKind.i64 c.q, AV.int IntKind.i64 c.s]
                                                        (23 : Nat))) ∧
                                      N
                                        { i := wrapF IntKind.i64 (z.i.add (1 : Int)),
                                          pts := wrapF IntKind.i64 (z.pts.add (1 : Int)), tr := z.tr, hd := false,
                                          us := z.us, x := z.x : Z })))))
                    (ifp
                      (!eqInt
                          (may c
                            z.x
                            (ins
                              c))
                          (0 : Int))
                      False
                      (ifp
                        (!eqInt
                            (used
                              {
                                b :=
                                  (lgdL
                                      c
                                      z.x
                                      (ins
                                        c)).b,
                                g :=
                                  (lgdL
                                      c
                                      z.x
                                      (ins
                                        c)).g,
                                s :=
                                  (lgdL
                                      c
                                      z.x
                                      (ins
                                        c)).s : L })
                            (wrapF IntKind.i64
                              (z.us.add
                                (ins
                                  c))))
                        False
                        (ifp
                          (!leInt
                              (wrapF IntKind.i64
                                (z.us.add
                                  (ins
                                    c)))
                              lim)
                          False
                          (ifp
                            (!eqInt
                                (rst
                                  c
                                  {
                                    b :=
                                      (lgdL
                                          c
                                          z.x
                                          (ins
                                            c)).b,
                                    g :=
                                      (lgdL
                                          c
                                          z.x
                                          (ins
                                            c)).g,
                                    s :=
                                      (lgdL
                                          c
                                          z.x
                                          (ins
                                            c)).s : L })
                                (wrapF IntKind.i64
                                  (lim.sub
                                    (wrapF IntKind.i64
                                      (z.us.add
                                        (ins
                                          c))))))
                            False
                            (ifp
                              (!leInt
                                  (lgdL
                                      c
                                      z.x
                                      (ins
                                        c)).s
                                  (0 : Int))
                              (ifp z.hd
                                ((True ∧
                                    some (AV.vs sl n cap true none (1 : Nat)) =
                                        some (AV.vs sl n cap true none (1 : Nat)) ∧
                                      some (AV.ptr (0 : Nat) (0 : Nat)) = some (AV.ptr (0 : Nat) (0 : Nat)) ∧
                                        some (AV.ptr (1 : Nat) (0 : Nat)) = some (AV.ptr (1 : Nat) (0 : Nat)) ∧
                                          some (AV.int IntKind.i64 (0 : Int)) = some (AV.int IntKind.i64 (0 : Int)) ∧
                                            some (AV.int IntKind.i64 lim) = some (AV.int IntKind.i64 lim) ∧
                                              some
                                                  (Ob.row
                                                    [AV.int IntKind.i64 c.d, AV.int IntKind.i64 c.p,
                                                      AV.int IntKind.i64 c.w, AV.int IntKind.i64 c.l,
                                                      AV.int IntKind.i64 c.r, AV.int IntKind.i64 c.i,
                                                      AV.int IntKind.i64 c.q, AV.int IntKind.i64 c.s]
                                                    (23 : Nat)) =
                                                some
                                                  (Ob.row
                                                    [AV.int IntKind.i64 c.d, AV.int IntKind.i64 c.p,
                                                      AV.int IntKind.i64 c.w, AV.int IntKind.i64 c.l,
                                                      AV.int IntKind.i64 c.r, AV.int IntKind.i64 c.i,
                                                      AV.int IntKind.i64 c.q, AV.int IntKind.i64 c.s]
                                                    (23 : Nat))) ∧
                                  N
                                    { i := wrapF IntKind.i64 (z.i.add (1 : Int)),
                                      pts := wrapF IntKind.i64 (z.pts.add (1 : Int)), tr := z.tr, hd := z.hd,
                                      us :=
                                        wrapF IntKind.i64
                                          (z.us.add
                                            (ins
                                              c)),
                                      x :=
                                        {
                                          b :=
                                            (lgdL
                                                c
                                                z.x
                                                (ins
                                                  c)).b,
                                          g :=
                                            (lgdL
                                                c
                                                z.x
                                                (ins
                                                  c)).g,
                                          s :=
                                            (lgdL
                                                c
                                                z.x
                                                (ins
                                                  c)).s : L } :
                                      Z })
                                False)
                              (ifp z.hd False
                                ((True ∧
                                    some (AV.vs sl n cap true none (1 : Nat)) =
                                        some (AV.vs sl n cap true none (1 : Nat)) ∧
                                      some (AV.ptr (0 : Nat) (0 : Nat)) = some (AV.ptr (0 : Nat) (0 : Nat)) ∧
                                        some (AV.ptr (1 : Nat) (0 : Nat)) = some (AV.ptr (1 : Nat) (0 : Nat)) ∧
                                          some (AV.int IntKind.i64 (0 : Int)) = some (AV.int IntKind.i64 (0 : Int)) ∧
                                            some (AV.int IntKind.i64 lim) = some (AV.int IntKind.i64 lim) ∧
                                              some
                                                  (Ob.row
                                                    [AV.int IntKind.i64 c.d, AV.int IntKind.i64 c.p,
                                                      AV.int IntKind.i64 c.w, AV.int IntKind.i64 c.l,
                                                      AV.int IntKind.i64 c.r, AV.int IntKind.i64 c.i,
                                                      AV.int IntKind.i64 c.q, AV.int IntKind.i64 c.s]
                                                    (23 : Nat)) =
                                                some
                                                  (Ob.row
                                                    [AV.int IntKind.i64 c.d, AV.int IntKind.i64 c.p,
                                                      AV.int IntKind.i64 c.w, AV.int IntKind.i64 c.l,
                                                      AV.int IntKind.i64 c.r, AV.int IntKind.i64 c.i,
                                                      AV.int IntKind.i64 c.q, AV.int IntKind.i64 c.s]
                                                    (23 : Nat))) ∧
                                  N
                                    { i := wrapF IntKind.i64 (z.i.add (1 : Int)),
                                      pts := wrapF IntKind.i64 (z.pts.add (1 : Int)), tr := z.tr, hd := z.hd,
                                      us :=
                                        wrapF IntKind.i64
                                          (z.us.add
                                            (ins
                                              c)),
                                      x :=
                                        {
                                          b :=
                                            (lgdL
                                                c
                                                z.x
                                                (ins
                                                  c)).b,
                                          g :=
                                            (lgdL
                                                c
                                                z.x
                                                (ins
                                                  c)).g,
                                          s :=
                                            (lgdL
                                                c
                                                z.x
                                                (ins
                                                  c)).s : L } :
                                      Z })))))))))
                (ifp (eqInt (x.tmod (5 : Int)) (2 : Int))
                  (ifp (eqInt z.pts (0 : Int))
                    ((True ∧
                        some (AV.vs sl n cap true none (1 : Nat)) = some (AV.vs sl n cap true none (1 : Nat)) ∧
                          some (AV.ptr (0 : Nat) (0 : Nat)) = some (AV.ptr (0 : Nat) (0 : Nat)) ∧
                            some (AV.ptr (1 : Nat) (0 : Nat)) = some (AV.ptr (1 : Nat) (0 : Nat)) ∧
                              some (AV.int IntKind.i64 (0 : Int)) = some (AV.int IntKind.i64 (0 : Int)) ∧
                                some (AV.int IntKind.i64 lim) = some (AV.int IntKind.i64 lim) ∧
                                  some
                                      (Ob.row
                                        [AV.int IntKind.i64 c.d, AV.int IntKind.i64 c.p, AV.int IntKind.i64 c.w,
                                          AV.int IntKind.i64 c.l, AV.int IntKind.i64 c.r, AV.int IntKind.i64 c.i,
                                          AV.int IntKind.i64 c.q, AV.int IntKind.i64 c.s]
                                        (23 : Nat)) =
                                    some
                                      (Ob.row
                                        [AV.int IntKind.i64 c.d, AV.int IntKind.i64 c.p, AV.int IntKind.i64 c.w,
                                          AV.int IntKind.i64 c.l, AV.int IntKind.i64 c.r, AV.int IntKind.i64 c.i,
                                          AV.int IntKind.i64 c.q, AV.int IntKind.i64 c.s]
                                        (23 : Nat))) ∧
                      N
                        { i := wrapF IntKind.i64 (z.i.add (1 : Int)), pts := z.pts, tr := z.tr, hd := z.hd, us := z.us,
                          x := z.x : Z })
                    (ifp
                      (eqInt
                        (may c
                          z.x
                          (del c))
                        (7 : Int))
                      (ifp
                        (leInt
                          (wrapF IntKind.i64
                            (z.us.add
                              (del
                                c)))
                          lim)
                        False
                        (idxOk z.i n ∧
                          ∃ (x : Int),
                            nth ((natOf z.i).mul (1 : Nat)) sl = some (AV.int IntKind.i64 x) ∧
                              (5 : Int) ≠ (0 : Int) ∧
                                ifp (eqInt (x.tmod (5 : Int)) (0 : Int))
                                  ((True ∧
                                      some (AV.vs sl n cap true none (1 : Nat)) =
                                          some (AV.vs sl n cap true none (1 : Nat)) ∧
                                        some (AV.ptr (0 : Nat) (0 : Nat)) = some (AV.ptr (0 : Nat) (0 : Nat)) ∧
                                          some (AV.ptr (1 : Nat) (0 : Nat)) = some (AV.ptr (1 : Nat) (0 : Nat)) ∧
                                            some (AV.int IntKind.i64 (0 : Int)) = some (AV.int IntKind.i64 (0 : Int)) ∧
                                              some (AV.int IntKind.i64 lim) = some (AV.int IntKind.i64 lim) ∧
                                                some
                                                    (Ob.row
                                                      [AV.int IntKind.i64 c.d, AV.int IntKind.i64 c.p,
                                                        AV.int IntKind.i64 c.w, AV.int IntKind.i64 c.l,
                                                        AV.int IntKind.i64 c.r, AV.int IntKind.i64 c.i,
                                                        AV.int IntKind.i64 c.q, AV.int IntKind.i64 c.s]
                                                      (23 : Nat)) =
                                                  some
                                                    (Ob.row
                                                      [AV.int IntKind.i64 c.d, AV.int IntKind.i64 c.p,
                                                        AV.int IntKind.i64 c.w, AV.int IntKind.i64 c.l,
                                                        AV.int IntKind.i64 c.r, AV.int IntKind.i64 c.i,
                                                        AV.int IntKind.i64 c.q, AV.int IntKind.i64 c.s]
                                                      (23 : Nat))) ∧
                                    N
                                      { i := wrapF IntKind.i64 (z.i.add (1 : Int)),
                                        pts :=
                                          wrapF IntKind.i64 ((wrapF IntKind.i64 (z.pts.sub (1 : Int))).sub (1 : Int)),
                                        tr := z.tr, hd := z.hd, us := z.us,
                                        x := z.x : Z })
                                  (ifp (eqInt (x.tmod (5 : Int)) (1 : Int))
                                    ((True ∧
                                        some (AV.vs sl n cap true none (1 : Nat)) =
                                            some (AV.vs sl n cap true none (1 : Nat)) ∧
                                          some (AV.ptr (0 : Nat) (0 : Nat)) = some (AV.ptr (0 : Nat) (0 : Nat)) ∧
                                            some (AV.ptr (1 : Nat) (0 : Nat)) = some (AV.ptr (1 : Nat) (0 : Nat)) ∧
                                              some (AV.int IntKind.i64 (0 : Int)) =
                                                  some (AV.int IntKind.i64 (0 : Int)) ∧
                                                some (AV.int IntKind.i64 lim) = some (AV.int IntKind.i64 lim) ∧
                                                  some
                                                      (Ob.row
                                                        [AV.int IntKind.i64 c.d, AV.int IntKind.i64 c.p,
                                                          AV.int IntKind.i64 c.w, AV.int IntKind.i64 c.l,
                                                          AV.int IntKind.i64 c.r, AV.int IntKind.i64 c.i,
                                                          AV.int IntKind.i64 c.q, AV.int IntKind.i64 c.s]
                                                        (23 : Nat)) =
                                                    some
                                                      (Ob.row
                                                        [AV.int IntKind.i64 c.d, AV.int IntKind.i64 c.p,
                                                          AV.int IntKind.i64 c.w, AV.int IntKind.i64 c.l,
                                                          AV.int IntKind.i64 c.r, AV.int IntKind.i64 c.i,
                                                          AV.int IntKind.i64 c.q, AV.int IntKind.i64 c.s]
                                                        (23 : Nat))) ∧
                                      N
                                        { i := wrapF IntKind.i64 (z.i.add (1 : Int)),
                                          pts :=
                                            wrapF IntKind.i64 ((wrapF IntKind.i64 (z.pts.sub (1 : Int))).sub (1 : Int)),
                                          tr := z.tr, hd := z.hd, us := z.us,
                                          x := z.x : Z })
                                    (ifp (eqInt (x.tmod (5 : Int)) (2 : Int))
                                      ((True ∧
                                          some (AV.vs sl n cap true none (1 : Nat)) =
                                              some (AV.vs sl n cap true none (1 : Nat)) ∧
                                            some (AV.ptr (0 : Nat) (0 : Nat)) = some (AV.ptr (0 : Nat) (0 : Nat)) ∧
                                              some (AV.ptr (1 : Nat) (0 : Nat)) = some (AV.ptr (1 : Nat) (0 : Nat)) ∧
                                                some (AV.int IntKind.i64 (0 : Int)) =
                                                    some (AV.int IntKind.i64 (0 : Int)) ∧
                                                  some (AV.int IntKind.i64 lim) = some (AV.int IntKind.i64 lim) ∧
                                                    some
                                                        (Ob.row
                                                          [AV.int IntKind.i64 c.d, AV.int IntKind.i64 c.p,
                                                            AV.int IntKind.i64 c.w, AV.int IntKind.i64 c.l,
                                                            AV.int IntKind.i64 c.r, AV.int IntKind.i64 c.i,
                                                            AV.int IntKind.i64 c.q, AV.int IntKind.i64 c.s]
                                                          (23 : Nat)) =
                                                      some
                                                        (Ob.row
                                                          [AV.int IntKind.i64 c.d, AV.int IntKind.i64 c.p,
                                                            AV.int IntKind.i64 c.w, AV.int IntKind.i64 c.l,
                                                            AV.int IntKind.i64 c.r, AV.int IntKind.i64 c.i,
                                                            AV.int IntKind.i64 c.q, AV.int IntKind.i64 c.s]
                                                          (23 : Nat))) ∧
                                        N
                                          { i := wrapF IntKind.i64 (z.i.add (1 : Int)),
                                            pts :=
                                              wrapF IntKind.i64
                                                ((wrapF IntKind.i64 (z.pts.sub (1 : Int))).add (1 : Int)),
                                            tr := z.tr, hd := z.hd, us := z.us,
                                            x := z.x : Z })
                                      ((True ∧
                                          some (AV.vs sl n cap true none (1 : Nat)) =
                                              some (AV.vs sl n cap true none (1 : Nat)) ∧
                                            some (AV.ptr (0 : Nat) (0 : Nat)) = some (AV.ptr (0 : Nat) (0 : Nat)) ∧
                                              some (AV.ptr (1 : Nat) (0 : Nat)) = some (AV.ptr (1 : Nat) (0 : Nat)) ∧
                                                some (AV.int IntKind.i64 (0 : Int)) =
                                                    some (AV.int IntKind.i64 (0 : Int)) ∧
                                                  some (AV.int IntKind.i64 lim) = some (AV.int IntKind.i64 lim) ∧
                                                    some
                                                        (Ob.row
                                                          [AV.int IntKind.i64 c.d, AV.int IntKind.i64 c.p,
                                                            AV.int IntKind.i64 c.w, AV.int IntKind.i64 c.l,
                                                            AV.int IntKind.i64 c.r, AV.int IntKind.i64 c.i,
                                                            AV.int IntKind.i64 c.q, AV.int IntKind.i64 c.s]
                                                          (23 : Nat)) =
                                                      some
                                                        (Ob.row
                                                          [AV.int IntKind.i64 c.d, AV.int IntKind.i64 c.p,
                                                            AV.int IntKind.i64 c.w, AV.int IntKind.i64 c.l,
                                                            AV.int IntKind.i64 c.r, AV.int IntKind.i64 c.i,
                                                            AV.int IntKind.i64 c.q, AV.int IntKind.i64 c.s]
                                                          (23 : Nat))) ∧
                                        N
                                          { i := wrapF IntKind.i64 (z.i.add (1 : Int)),
                                            pts := wrapF IntKind.i64 (z.pts.sub (1 : Int)), tr := z.tr, hd := false,
                                            us := z.us, x := z.x : Z })))))
                      (ifp
                        (!eqInt
                            (may c
                              z.x
                              (del
                                c))
                            (0 : Int))
                        False
                        (ifp
                          (!eqInt
                              (used
                                {
                                  b :=
                                    (lgdL
                                        c
                                        z.x
                                        (del
                                          c)).b,
                                  g :=
                                    (lgdL
                                        c
                                        z.x
                                        (del
                                          c)).g,
                                  s :=
                                    (lgdL
                                        c
                                        z.x
                                        (del
                                          c)).s : L })
                              (wrapF IntKind.i64
                                (z.us.add
                                  (del
                                    c))))
                          False
                          (ifp
                            (!leInt
                                (wrapF IntKind.i64
                                  (z.us.add
                                    (del
                                      c)))
                                lim)
                            False
                            (ifp
                              (!eqInt
                                  (rst
                                    c
                                    {
                                      b :=
                                        (lgdL
                                            c
                                            z.x
                                            (del
                                              c)).b,
                                      g :=
                                        (lgdL
                                            c
                                            z.x
                                            (del
                                              c)).g,
                                      s :=
                                        (lgdL
                                            c
                                            z.x
                                            (del
                                              c)).s : L })
                                  (wrapF IntKind.i64
                                    (lim.sub
                                      (wrapF IntKind.i64
                                        (z.us.add
                                          (del
                                            c))))))
                              False
                              (ifp
                                (!leInt
                                    (lgdL
                                        c
                                        z.x
                                        (del
                                          c)).s
                                    (0 : Int))
                                (ifp z.hd
                                  ((True ∧
                                      some (AV.vs sl n cap true none (1 : Nat)) =
                                          some (AV.vs sl n cap true none (1 : Nat)) ∧
                                        some (AV.ptr (0 : Nat) (0 : Nat)) = some (AV.ptr (0 : Nat) (0 : Nat)) ∧
                                          some (AV.ptr (1 : Nat) (0 : Nat)) = some (AV.ptr (1 : Nat) (0 : Nat)) ∧
                                            some (AV.int IntKind.i64 (0 : Int)) = some (AV.int IntKind.i64 (0 : Int)) ∧
                                              some (AV.int IntKind.i64 lim) = some (AV.int IntKind.i64 lim) ∧
                                                some
                                                    (Ob.row
                                                      [AV.int IntKind.i64 c.d, AV.int IntKind.i64 c.p,
                                                        AV.int IntKind.i64 c.w, AV.int IntKind.i64 c.l,
                                                        AV.int IntKind.i64 c.r, AV.int IntKind.i64 c.i,
                                                        AV.int IntKind.i64 c.q, AV.int IntKind.i64 c.s]
                                                      (23 : Nat)) =
                                                  some
                                                    (Ob.row
                                                      [AV.int IntKind.i64 c.d, AV.int IntKind.i64 c.p,
                                                        AV.int IntKind.i64 c.w, AV.int IntKind.i64 c.l,
                                                        AV.int IntKind.i64 c.r, AV.int IntKind.i64 c.i,
                                                        AV.int IntKind.i64 c.q, AV.int IntKind.i64 c.s]
                                                      (23 : Nat))) ∧
                                    N
                                      { i := wrapF IntKind.i64 (z.i.add (1 : Int)),
                                        pts := wrapF IntKind.i64 (z.pts.sub (1 : Int)), tr := z.tr, hd := z.hd,
                                        us :=
                                          wrapF IntKind.i64
                                            (z.us.add
                                              (del
                                                c)),
                                        x :=
                                          {
                                            b :=
                                              (lgdL
                                                  c
                                                  z.x
                                                  (del
                                                    c)).b,
                                            g :=
                                              (lgdL
                                                  c
                                                  z.x
                                                  (del
                                                    c)).g,
                                            s :=
                                              (lgdL
                                                  c
                                                  z.x
                                                  (del
                                                    c)).s : L } :
                                        Z })
                                  False)
                                (ifp z.hd False
                                  ((True ∧
                                      some (AV.vs sl n cap true none (1 : Nat)) =
                                          some (AV.vs sl n cap true none (1 : Nat)) ∧
                                        some (AV.ptr (0 : Nat) (0 : Nat)) = some (AV.ptr (0 : Nat) (0 : Nat)) ∧
                                          some (AV.ptr (1 : Nat) (0 : Nat)) = some (AV.ptr (1 : Nat) (0 : Nat)) ∧
                                            some (AV.int IntKind.i64 (0 : Int)) = some (AV.int IntKind.i64 (0 : Int)) ∧
                                              some (AV.int IntKind.i64 lim) = some (AV.int IntKind.i64 lim) ∧
                                                some
                                                    (Ob.row
                                                      [AV.int IntKind.i64 c.d, AV.int IntKind.i64 c.p,
                                                        AV.int IntKind.i64 c.w, AV.int IntKind.i64 c.l,
                                                        AV.int IntKind.i64 c.r, AV.int IntKind.i64 c.i,
                                                        AV.int IntKind.i64 c.q, AV.int IntKind.i64 c.s]
                                                      (23 : Nat)) =
                                                  some
                                                    (Ob.row
                                                      [AV.int IntKind.i64 c.d, AV.int IntKind.i64 c.p,
                                                        AV.int IntKind.i64 c.w, AV.int IntKind.i64 c.l,
                                                        AV.int IntKind.i64 c.r, AV.int IntKind.i64 c.i,
                                                        AV.int IntKind.i64 c.q, AV.int IntKind.i64 c.s]
                                                      (23 : Nat))) ∧
                                    N
                                      { i := wrapF IntKind.i64 (z.i.add (1 : Int)),
                                        pts := wrapF IntKind.i64 (z.pts.sub (1 : Int)), tr := z.tr, hd := z.hd,
                                        us :=
                                          wrapF IntKind.i64
                                            (z.us.add
                                              (del
                                                c)),
                                        x :=
                                          {
                                            b :=
                                              (lgdL
                                                  c
                                                  z.x
                                                  (del
                                                    c)).b,
                                            g :=
                                              (lgdL
                                                  c
                                                  z.x
                                                  (del
                                                    c)).g,
                                            s :=
                                              (lgdL
                                                  c
                                                  z.x
                                                  (del
                                                    c)).s : L } :
                                        Z })))))))))
                  (ifp (eqInt (x.tmod (5 : Int)) (3 : Int))
                    (ifp z.hd
                      (ifp z.tr
                        (ifp z.hd
                          (ifp (eqInt (swdE z.x) (7 : Int))
                            (ifp (leInt (wrapF IntKind.i64 (z.us.add (0 : Int))) lim) False
                              (idxOk z.i n ∧
                                ∃ (x : Int),
                                  nth ((natOf z.i).mul (1 : Nat)) sl = some (AV.int IntKind.i64 x) ∧
                                    (5 : Int) ≠ (0 : Int) ∧
                                      ifp (eqInt (x.tmod (5 : Int)) (0 : Int))
                                        ((True ∧
                                            some (AV.vs sl n cap true none (1 : Nat)) =
                                                some (AV.vs sl n cap true none (1 : Nat)) ∧
                                              some (AV.ptr (0 : Nat) (0 : Nat)) = some (AV.ptr (0 : Nat) (0 : Nat)) ∧
                                                some (AV.ptr (1 : Nat) (0 : Nat)) = some (AV.ptr (1 : Nat) (0 : Nat)) ∧
                                                  some (AV.int IntKind.i64 (0 : Int)) =
                                                      some (AV.int IntKind.i64 (0 : Int)) ∧
                                                    some (AV.int IntKind.i64 lim) = some (AV.int IntKind.i64 lim) ∧
                                                      some
                                                          (Ob.row
                                                            [AV.int IntKind.i64 c.d, AV.int IntKind.i64 c.p,
                                                              AV.int IntKind.i64 c.w, AV.int IntKind.i64 c.l,
                                                              AV.int IntKind.i64 c.r, AV.int IntKind.i64 c.i,
                                                              AV.int IntKind.i64 c.q, AV.int IntKind.i64 c.s]
                                                            (23 : Nat)) =
                                                        some
                                                          (Ob.row
                                                            [AV.int IntKind.i64 c.d, AV.int IntKind.i64 c.p,
                                                              AV.int IntKind.i64 c.w, AV.int IntKind.i64 c.l,
                                                              AV.int IntKind.i64 c.r, AV.int IntKind.i64 c.i,
                                                              AV.int IntKind.i64 c.q, AV.int IntKind.i64 c.s]
                                                            (23 : Nat))) ∧
                                          N
                                            { i := wrapF IntKind.i64 (z.i.add (1 : Int)),
                                              pts := wrapF IntKind.i64 (z.pts.sub (1 : Int)), tr := true, hd := false,
                                              us := z.us, x := z.x : Z })
                                        (ifp (eqInt (x.tmod (5 : Int)) (1 : Int))
                                          ((True ∧
                                              some (AV.vs sl n cap true none (1 : Nat)) =
                                                  some (AV.vs sl n cap true none (1 : Nat)) ∧
                                                some (AV.ptr (0 : Nat) (0 : Nat)) = some (AV.ptr (0 : Nat) (0 : Nat)) ∧
                                                  some (AV.ptr (1 : Nat) (0 : Nat)) =
                                                      some (AV.ptr (1 : Nat) (0 : Nat)) ∧
                                                    some (AV.int IntKind.i64 (0 : Int)) =
                                                        some (AV.int IntKind.i64 (0 : Int)) ∧
                                                      some (AV.int IntKind.i64 lim) = some (AV.int IntKind.i64 lim) ∧
                                                        some
                                                            (Ob.row
                                                              [AV.int IntKind.i64 c.d, AV.int IntKind.i64 c.p,
                                                                AV.int IntKind.i64 c.w, AV.int IntKind.i64 c.l,
                                                                AV.int IntKind.i64 c.r, AV.int IntKind.i64 c.i,
                                                                AV.int IntKind.i64 c.q, AV.int IntKind.i64 c.s]
                                                              (23 : Nat)) =
                                                          some
                                                            (Ob.row
                                                              [AV.int IntKind.i64 c.d, AV.int IntKind.i64 c.p,
                                                                AV.int IntKind.i64 c.w, AV.int IntKind.i64 c.l,
                                                                AV.int IntKind.i64 c.r, AV.int IntKind.i64 c.i,
                                                                AV.int IntKind.i64 c.q, AV.int IntKind.i64 c.s]
                                                              (23 : Nat))) ∧
                                            N
                                              { i := wrapF IntKind.i64 (z.i.add (1 : Int)),
                                                pts := wrapF IntKind.i64 (z.pts.sub (1 : Int)), tr := true, hd := false,
                                                us := z.us, x := z.x : Z })
                                          (ifp (eqInt (x.tmod (5 : Int)) (2 : Int))
                                            ((True ∧
                                                some (AV.vs sl n cap true none (1 : Nat)) =
                                                    some (AV.vs sl n cap true none (1 : Nat)) ∧
                                                  some (AV.ptr (0 : Nat) (0 : Nat)) =
                                                      some (AV.ptr (0 : Nat) (0 : Nat)) ∧
                                                    some (AV.ptr (1 : Nat) (0 : Nat)) =
                                                        some (AV.ptr (1 : Nat) (0 : Nat)) ∧
                                                      some (AV.int IntKind.i64 (0 : Int)) =
                                                          some (AV.int IntKind.i64 (0 : Int)) ∧
                                                        some (AV.int IntKind.i64 lim) = some (AV.int IntKind.i64 lim) ∧
                                                          some
                                                              (Ob.row
                                                                [AV.int IntKind.i64 c.d, AV.int IntKind.i64 c.p,
                                                                  AV.int IntKind.i64 c.w, AV.int IntKind.i64 c.l,
                                                                  AV.int IntKind.i64 c.r, AV.int IntKind.i64 c.i,
                                                                  AV.int IntKind.i64 c.q, AV.int IntKind.i64 c.s]
                                                                (23 : Nat)) =
                                                            some
                                                              (Ob.row
                                                                [AV.int IntKind.i64 c.d, AV.int IntKind.i64 c.p,
                                                                  AV.int IntKind.i64 c.w, AV.int IntKind.i64 c.l,
                                                                  AV.int IntKind.i64 c.r, AV.int IntKind.i64 c.i,
                                                                  AV.int IntKind.i64 c.q, AV.int IntKind.i64 c.s]
                                                                (23 : Nat))) ∧
                                              N
                                                { i := wrapF IntKind.i64 (z.i.add (1 : Int)),
                                                  pts := wrapF IntKind.i64 (z.pts.add (1 : Int)), tr := true,
                                                  hd := false, us := z.us,
                                                  x := z.x : Z })
                                            ((True ∧
                                                some (AV.vs sl n cap true none (1 : Nat)) =
                                                    some (AV.vs sl n cap true none (1 : Nat)) ∧
                                                  some (AV.ptr (0 : Nat) (0 : Nat)) =
                                                      some (AV.ptr (0 : Nat) (0 : Nat)) ∧
                                                    some (AV.ptr (1 : Nat) (0 : Nat)) =
                                                        some (AV.ptr (1 : Nat) (0 : Nat)) ∧
                                                      some (AV.int IntKind.i64 (0 : Int)) =
                                                          some (AV.int IntKind.i64 (0 : Int)) ∧
                                                        some (AV.int IntKind.i64 lim) = some (AV.int IntKind.i64 lim) ∧
                                                          some
                                                              (Ob.row
                                                                [AV.int IntKind.i64 c.d, AV.int IntKind.i64 c.p,
                                                                  AV.int IntKind.i64 c.w, AV.int IntKind.i64 c.l,
                                                                  AV.int IntKind.i64 c.r, AV.int IntKind.i64 c.i,
                                                                  AV.int IntKind.i64 c.q, AV.int IntKind.i64 c.s]
                                                                (23 : Nat)) =
                                                            some
                                                              (Ob.row
                                                                [AV.int IntKind.i64 c.d, AV.int IntKind.i64 c.p,
                                                                  AV.int IntKind.i64 c.w, AV.int IntKind.i64 c.l,
                                                                  AV.int IntKind.i64 c.r, AV.int IntKind.i64 c.i,
                                                                  AV.int IntKind.i64 c.q, AV.int IntKind.i64 c.s]
                                                                (23 : Nat))) ∧
                                              N
                                                { i := wrapF IntKind.i64 (z.i.add (1 : Int)), pts := z.pts, tr := true,
                                                  hd := false, us := z.us,
                                                  x := z.x : Z })))))
                            (ifp (!eqInt (swdE z.x) (0 : Int)) False
                              (ifp
                                (!eqInt
                                    (used
                                      { b := (swdL z.x).b,
                                        g := (swdL z.x).g,
                                        s := (swdL z.x).s : L })
                                    (wrapF IntKind.i64 (z.us.add (0 : Int))))
                                False
                                (ifp (!leInt (wrapF IntKind.i64 (z.us.add (0 : Int))) lim) False
                                  (ifp
                                    (!eqInt
                                        (rst
                                          c
                                          { b := (swdL z.x).b,
                                            g := (swdL z.x).g,
                                            s := (swdL z.x).s : L })
                                        (wrapF IntKind.i64 (lim.sub (wrapF IntKind.i64 (z.us.add (0 : Int))))))
                                    False
                                    (ifp (!leInt (swdL z.x).s (0 : Int)) False
                                      ((True ∧
                                          some (AV.vs sl n cap true none (1 : Nat)) =
                                              some (AV.vs sl n cap true none (1 : Nat)) ∧
                                            some (AV.ptr (0 : Nat) (0 : Nat)) = some (AV.ptr (0 : Nat) (0 : Nat)) ∧
                                              some (AV.ptr (1 : Nat) (0 : Nat)) = some (AV.ptr (1 : Nat) (0 : Nat)) ∧
                                                some (AV.int IntKind.i64 (0 : Int)) =
                                                    some (AV.int IntKind.i64 (0 : Int)) ∧
                                                  some (AV.int IntKind.i64 lim) = some (AV.int IntKind.i64 lim) ∧
                                                    some
                                                        (Ob.row
                                                          [AV.int IntKind.i64 c.d, AV.int IntKind.i64 c.p,
                                                            AV.int IntKind.i64 c.w, AV.int IntKind.i64 c.l,
                                                            AV.int IntKind.i64 c.r, AV.int IntKind.i64 c.i,
                                                            AV.int IntKind.i64 c.q, AV.int IntKind.i64 c.s]
                                                          (23 : Nat)) =
                                                      some
                                                        (Ob.row
                                                          [AV.int IntKind.i64 c.d, AV.int IntKind.i64 c.p,
                                                            AV.int IntKind.i64 c.w, AV.int IntKind.i64 c.l,
                                                            AV.int IntKind.i64 c.r, AV.int IntKind.i64 c.i,
                                                            AV.int IntKind.i64 c.q, AV.int IntKind.i64 c.s]
                                                          (23 : Nat))) ∧
                                        N
                                          { i := wrapF IntKind.i64 (z.i.add (1 : Int)), pts := z.pts, tr := true,
                                            hd := false, us := wrapF IntKind.i64 (z.us.add (0 : Int)),
                                            x :=
                                              { b := (swdL z.x).b,
                                                g := (swdL z.x).g,
                                                s := (swdL z.x).s : L } :
                                            Z })))))))
                          (ifp (eqInt (swdE z.x) (7 : Int))
                            (ifp (leInt (wrapF IntKind.i64 (z.us.add (0 : Int))) lim) False
                              (idxOk z.i n ∧
                                ∃ (x : Int),
                                  nth ((natOf z.i).mul (1 : Nat)) sl = some (AV.int IntKind.i64 x) ∧
                                    (5 : Int) ≠ (0 : Int) ∧
                                      ifp (eqInt (x.tmod (5 : Int)) (0 : Int))
                                        ((True ∧
                                            some (AV.vs sl n cap true none (1 : Nat)) =
                                                some (AV.vs sl n cap true none (1 : Nat)) ∧
                                              some (AV.ptr (0 : Nat) (0 : Nat)) = some (AV.ptr (0 : Nat) (0 : Nat)) ∧
                                                some (AV.ptr (1 : Nat) (0 : Nat)) = some (AV.ptr (1 : Nat) (0 : Nat)) ∧
                                                  some (AV.int IntKind.i64 (0 : Int)) =
                                                      some (AV.int IntKind.i64 (0 : Int)) ∧
                                                    some (AV.int IntKind.i64 lim) = some (AV.int IntKind.i64 lim) ∧
                                                      some
                                                          (Ob.row
                                                            [AV.int IntKind.i64 c.d, AV.int IntKind.i64 c.p,
                                                              AV.int IntKind.i64 c.w, AV.int IntKind.i64 c.l,
                                                              AV.int IntKind.i64 c.r, AV.int IntKind.i64 c.i,
                                                              AV.int IntKind.i64 c.q, AV.int IntKind.i64 c.s]
                                                            (23 : Nat)) =
                                                        some
                                                          (Ob.row
                                                            [AV.int IntKind.i64 c.d, AV.int IntKind.i64 c.p,
                                                              AV.int IntKind.i64 c.w, AV.int IntKind.i64 c.l,
                                                              AV.int IntKind.i64 c.r, AV.int IntKind.i64 c.i,
                                                              AV.int IntKind.i64 c.q, AV.int IntKind.i64 c.s]
                                                            (23 : Nat))) ∧
                                          N
                                            { i := wrapF IntKind.i64 (z.i.add (1 : Int)),
                                              pts := wrapF IntKind.i64 (z.pts.sub (1 : Int)), tr := true, hd := true,
                                              us := z.us, x := z.x : Z })
                                        (ifp (eqInt (x.tmod (5 : Int)) (1 : Int))
                                          ((True ∧
                                              some (AV.vs sl n cap true none (1 : Nat)) =
                                                  some (AV.vs sl n cap true none (1 : Nat)) ∧
                                                some (AV.ptr (0 : Nat) (0 : Nat)) = some (AV.ptr (0 : Nat) (0 : Nat)) ∧
                                                  some (AV.ptr (1 : Nat) (0 : Nat)) =
                                                      some (AV.ptr (1 : Nat) (0 : Nat)) ∧
                                                    some (AV.int IntKind.i64 (0 : Int)) =
                                                        some (AV.int IntKind.i64 (0 : Int)) ∧
                                                      some (AV.int IntKind.i64 lim) = some (AV.int IntKind.i64 lim) ∧
                                                        some
                                                            (Ob.row
                                                              [AV.int IntKind.i64 c.d, AV.int IntKind.i64 c.p,
                                                                AV.int IntKind.i64 c.w, AV.int IntKind.i64 c.l,
                                                                AV.int IntKind.i64 c.r, AV.int IntKind.i64 c.i,
                                                                AV.int IntKind.i64 c.q, AV.int IntKind.i64 c.s]
                                                              (23 : Nat)) =
                                                          some
                                                            (Ob.row
                                                              [AV.int IntKind.i64 c.d, AV.int IntKind.i64 c.p,
                                                                AV.int IntKind.i64 c.w, AV.int IntKind.i64 c.l,
                                                                AV.int IntKind.i64 c.r, AV.int IntKind.i64 c.i,
                                                                AV.int IntKind.i64 c.q, AV.int IntKind.i64 c.s]
                                                              (23 : Nat))) ∧
                                            N
                                              { i := wrapF IntKind.i64 (z.i.add (1 : Int)),
                                                pts := wrapF IntKind.i64 (z.pts.sub (1 : Int)), tr := true, hd := true,
                                                us := z.us, x := z.x : Z })
                                          (ifp (eqInt (x.tmod (5 : Int)) (2 : Int))
                                            ((True ∧
                                                some (AV.vs sl n cap true none (1 : Nat)) =
                                                    some (AV.vs sl n cap true none (1 : Nat)) ∧
                                                  some (AV.ptr (0 : Nat) (0 : Nat)) =
                                                      some (AV.ptr (0 : Nat) (0 : Nat)) ∧
                                                    some (AV.ptr (1 : Nat) (0 : Nat)) =
                                                        some (AV.ptr (1 : Nat) (0 : Nat)) ∧
                                                      some (AV.int IntKind.i64 (0 : Int)) =
                                                          some (AV.int IntKind.i64 (0 : Int)) ∧
                                                        some (AV.int IntKind.i64 lim) = some (AV.int IntKind.i64 lim) ∧
                                                          some
                                                              (Ob.row
                                                                [AV.int IntKind.i64 c.d, AV.int IntKind.i64 c.p,
                                                                  AV.int IntKind.i64 c.w, AV.int IntKind.i64 c.l,
                                                                  AV.int IntKind.i64 c.r, AV.int IntKind.i64 c.i,
                                                                  AV.int IntKind.i64 c.q, AV.int IntKind.i64 c.s]
                                                                (23 : Nat)) =
                                                            some
                                                              (Ob.row
                                                                [AV.int IntKind.i64 c.d, AV.int IntKind.i64 c.p,
                                                                  AV.int IntKind.i64 c.w, AV.int IntKind.i64 c.l,
                                                                  AV.int IntKind.i64 c.r, AV.int IntKind.i64 c.i,
                                                                  AV.int IntKind.i64 c.q, AV.int IntKind.i64 c.s]
                                                                (23 : Nat))) ∧
                                              N
                                                { i := wrapF IntKind.i64 (z.i.add (1 : Int)),
                                                  pts := wrapF IntKind.i64 (z.pts.add (1 : Int)), tr := true,
                                                  hd := true, us := z.us,
                                                  x := z.x : Z })
                                            ((True ∧
                                                some (AV.vs sl n cap true none (1 : Nat)) =
                                                    some (AV.vs sl n cap true none (1 : Nat)) ∧
                                                  some (AV.ptr (0 : Nat) (0 : Nat)) =
                                                      some (AV.ptr (0 : Nat) (0 : Nat)) ∧
                                                    some (AV.ptr (1 : Nat) (0 : Nat)) =
                                                        some (AV.ptr (1 : Nat) (0 : Nat)) ∧
                                                      some (AV.int IntKind.i64 (0 : Int)) =
                                                          some (AV.int IntKind.i64 (0 : Int)) ∧
                                                        some (AV.int IntKind.i64 lim) = some (AV.int IntKind.i64 lim) ∧
                                                          some
                                                              (Ob.row
                                                                [AV.int IntKind.i64 c.d, AV.int IntKind.i64 c.p,
                                                                  AV.int IntKind.i64 c.w, AV.int IntKind.i64 c.l,
                                                                  AV.int IntKind.i64 c.r, AV.int IntKind.i64 c.i,
                                                                  AV.int IntKind.i64 c.q, AV.int IntKind.i64 c.s]
                                                                (23 : Nat)) =
                                                            some
                                                              (Ob.row
                                                                [AV.int IntKind.i64 c.d, AV.int IntKind.i64 c.p,
                                                                  AV.int IntKind.i64 c.w, AV.int IntKind.i64 c.l,
                                                                  AV.int IntKind.i64 c.r, AV.int IntKind.i64 c.i,
                                                                  AV.int IntKind.i64 c.q, AV.int IntKind.i64 c.s]
                                                                (23 : Nat))) ∧
                                              N
                                                { i := wrapF IntKind.i64 (z.i.add (1 : Int)), pts := z.pts, tr := true,
                                                  hd := false, us := z.us,
                                                  x := z.x : Z })))))
                            (ifp (!eqInt (swdE z.x) (0 : Int)) False
                              (ifp
                                (!eqInt
                                    (used
                                      { b := (swdL z.x).b,
                                        g := (swdL z.x).g,
                                        s := (swdL z.x).s : L })
                                    (wrapF IntKind.i64 (z.us.add (0 : Int))))
                                False
                                (ifp (!leInt (wrapF IntKind.i64 (z.us.add (0 : Int))) lim) False
                                  (ifp
                                    (!eqInt
                                        (rst
                                          c
                                          { b := (swdL z.x).b,
                                            g := (swdL z.x).g,
                                            s := (swdL z.x).s : L })
                                        (wrapF IntKind.i64 (lim.sub (wrapF IntKind.i64 (z.us.add (0 : Int))))))
                                    False
                                    (ifp (!leInt (swdL z.x).s (0 : Int))
                                      ((True ∧
                                          some (AV.vs sl n cap true none (1 : Nat)) =
                                              some (AV.vs sl n cap true none (1 : Nat)) ∧
                                            some (AV.ptr (0 : Nat) (0 : Nat)) = some (AV.ptr (0 : Nat) (0 : Nat)) ∧
                                              some (AV.ptr (1 : Nat) (0 : Nat)) = some (AV.ptr (1 : Nat) (0 : Nat)) ∧
                                                some (AV.int IntKind.i64 (0 : Int)) =
                                                    some (AV.int IntKind.i64 (0 : Int)) ∧
                                                  some (AV.int IntKind.i64 lim) = some (AV.int IntKind.i64 lim) ∧
                                                    some
                                                        (Ob.row
                                                          [AV.int IntKind.i64 c.d, AV.int IntKind.i64 c.p,
                                                            AV.int IntKind.i64 c.w, AV.int IntKind.i64 c.l,
                                                            AV.int IntKind.i64 c.r, AV.int IntKind.i64 c.i,
                                                            AV.int IntKind.i64 c.q, AV.int IntKind.i64 c.s]
                                                          (23 : Nat)) =
                                                      some
                                                        (Ob.row
                                                          [AV.int IntKind.i64 c.d, AV.int IntKind.i64 c.p,
                                                            AV.int IntKind.i64 c.w, AV.int IntKind.i64 c.l,
                                                            AV.int IntKind.i64 c.r, AV.int IntKind.i64 c.i,
                                                            AV.int IntKind.i64 c.q, AV.int IntKind.i64 c.s]
                                                          (23 : Nat))) ∧
                                        N
                                          { i := wrapF IntKind.i64 (z.i.add (1 : Int)), pts := z.pts, tr := true,
                                            hd := true, us := wrapF IntKind.i64 (z.us.add (0 : Int)),
                                            x :=
                                              { b := (swdL z.x).b,
                                                g := (swdL z.x).g,
                                                s := (swdL z.x).s : L } :
                                            Z })
                                      False)))))))
                        (ifp (eqInt (swdE z.x) (0 : Int))
                          (ifp z.hd
                            (ifp (eqInt (swdE z.x) (7 : Int))
                              (ifp (leInt (wrapF IntKind.i64 (z.us.add (0 : Int))) lim) False
                                (idxOk z.i n ∧
                                  ∃ (x : Int),
                                    nth ((natOf z.i).mul (1 : Nat)) sl = some (AV.int IntKind.i64 x) ∧
                                      (5 : Int) ≠ (0 : Int) ∧
                                        ifp (eqInt (x.tmod (5 : Int)) (0 : Int))
                                          ((True ∧
                                              some (AV.vs sl n cap true none (1 : Nat)) =
                                                  some (AV.vs sl n cap true none (1 : Nat)) ∧
                                                some (AV.ptr (0 : Nat) (0 : Nat)) = some (AV.ptr (0 : Nat) (0 : Nat)) ∧
                                                  some (AV.ptr (1 : Nat) (0 : Nat)) =
                                                      some (AV.ptr (1 : Nat) (0 : Nat)) ∧
                                                    some (AV.int IntKind.i64 (0 : Int)) =
                                                        some (AV.int IntKind.i64 (0 : Int)) ∧
                                                      some (AV.int IntKind.i64 lim) = some (AV.int IntKind.i64 lim) ∧
                                                        some
                                                            (Ob.row
                                                              [AV.int IntKind.i64 c.d, AV.int IntKind.i64 c.p,
                                                                AV.int IntKind.i64 c.w, AV.int IntKind.i64 c.l,
                                                                AV.int IntKind.i64 c.r, AV.int IntKind.i64 c.i,
                                                                AV.int IntKind.i64 c.q, AV.int IntKind.i64 c.s]
                                                              (23 : Nat)) =
                                                          some
                                                            (Ob.row
                                                              [AV.int IntKind.i64 c.d, AV.int IntKind.i64 c.p,
                                                                AV.int IntKind.i64 c.w, AV.int IntKind.i64 c.l,
                                                                AV.int IntKind.i64 c.r, AV.int IntKind.i64 c.i,
                                                                AV.int IntKind.i64 c.q, AV.int IntKind.i64 c.s]
                                                              (23 : Nat))) ∧
                                            N
                                              { i := wrapF IntKind.i64 (z.i.add (1 : Int)),
                                                pts := wrapF IntKind.i64 (z.pts.sub (1 : Int)), tr := true, hd := false,
                                                us := z.us, x := z.x : Z })
                                          (ifp (eqInt (x.tmod (5 : Int)) (1 : Int))
                                            ((True ∧
                                                some (AV.vs sl n cap true none (1 : Nat)) =
                                                    some (AV.vs sl n cap true none (1 : Nat)) ∧
                                                  some (AV.ptr (0 : Nat) (0 : Nat)) =
                                                      some (AV.ptr (0 : Nat) (0 : Nat)) ∧
                                                    some (AV.ptr (1 : Nat) (0 : Nat)) =
                                                        some (AV.ptr (1 : Nat) (0 : Nat)) ∧
                                                      some (AV.int IntKind.i64 (0 : Int)) =
                                                          some (AV.int IntKind.i64 (0 : Int)) ∧
                                                        some (AV.int IntKind.i64 lim) = some (AV.int IntKind.i64 lim) ∧
                                                          some
                                                              (Ob.row
                                                                [AV.int IntKind.i64 c.d, AV.int IntKind.i64 c.p,
                                                                  AV.int IntKind.i64 c.w, AV.int IntKind.i64 c.l,
                                                                  AV.int IntKind.i64 c.r, AV.int IntKind.i64 c.i,
                                                                  AV.int IntKind.i64 c.q, AV.int IntKind.i64 c.s]
                                                                (23 : Nat)) =
                                                            some
                                                              (Ob.row
                                                                [AV.int IntKind.i64 c.d, AV.int IntKind.i64 c.p,
                                                                  AV.int IntKind.i64 c.w, AV.int IntKind.i64 c.l,
                                                                  AV.int IntKind.i64 c.r, AV.int IntKind.i64 c.i,
                                                                  AV.int IntKind.i64 c.q, AV.int IntKind.i64 c.s]
                                                                (23 : Nat))) ∧
                                              N
                                                { i := wrapF IntKind.i64 (z.i.add (1 : Int)),
                                                  pts := wrapF IntKind.i64 (z.pts.sub (1 : Int)), tr := true,
                                                  hd := false, us := z.us,
                                                  x := z.x : Z })
                                            (ifp (eqInt (x.tmod (5 : Int)) (2 : Int))
                                              ((True ∧
                                                  some (AV.vs sl n cap true none (1 : Nat)) =
                                                      some (AV.vs sl n cap true none (1 : Nat)) ∧
                                                    some (AV.ptr (0 : Nat) (0 : Nat)) =
                                                        some (AV.ptr (0 : Nat) (0 : Nat)) ∧
                                                      some (AV.ptr (1 : Nat) (0 : Nat)) =
                                                          some (AV.ptr (1 : Nat) (0 : Nat)) ∧
                                                        some (AV.int IntKind.i64 (0 : Int)) =
                                                            some (AV.int IntKind.i64 (0 : Int)) ∧
                                                          some (AV.int IntKind.i64 lim) =
                                                              some (AV.int IntKind.i64 lim) ∧
                                                            some
                                                                (Ob.row
                                                                  [AV.int IntKind.i64 c.d, AV.int IntKind.i64 c.p,
                                                                    AV.int IntKind.i64 c.w, AV.int IntKind.i64 c.l,
                                                                    AV.int IntKind.i64 c.r, AV.int IntKind.i64 c.i,
                                                                    AV.int IntKind.i64 c.q, AV.int IntKind.i64 c.s]
                                                                  (23 : Nat)) =
                                                              some
                                                                (Ob.row
                                                                  [AV.int IntKind.i64 c.d, AV.int IntKind.i64 c.p,
                                                                    AV.int IntKind.i64 c.w, AV.int IntKind.i64 c.l,
                                                                    AV.int IntKind.i64 c.r, AV.int IntKind.i64 c.i,
                                                                    AV.int IntKind.i64 c.q, AV.int IntKind.i64 c.s]
                                                                  (23 : Nat))) ∧
                                                N
                                                  { i := wrapF IntKind.i64 (z.i.add (1 : Int)),
                                                    pts := wrapF IntKind.i64 (z.pts.add (1 : Int)), tr := true,
                                                    hd := false, us := z.us,
                                                    x := z.x : Z })
                                              ((True ∧
                                                  some (AV.vs sl n cap true none (1 : Nat)) =
                                                      some (AV.vs sl n cap true none (1 : Nat)) ∧
                                                    some (AV.ptr (0 : Nat) (0 : Nat)) =
                                                        some (AV.ptr (0 : Nat) (0 : Nat)) ∧
                                                      some (AV.ptr (1 : Nat) (0 : Nat)) =
                                                          some (AV.ptr (1 : Nat) (0 : Nat)) ∧
                                                        some (AV.int IntKind.i64 (0 : Int)) =
                                                            some (AV.int IntKind.i64 (0 : Int)) ∧
                                                          some (AV.int IntKind.i64 lim) =
                                                              some (AV.int IntKind.i64 lim) ∧
                                                            some
                                                                (Ob.row
                                                                  [AV.int IntKind.i64 c.d, AV.int IntKind.i64 c.p,
                                                                    AV.int IntKind.i64 c.w, AV.int IntKind.i64 c.l,
                                                                    AV.int IntKind.i64 c.r, AV.int IntKind.i64 c.i,
                                                                    AV.int IntKind.i64 c.q, AV.int IntKind.i64 c.s]
                                                                  (23 : Nat)) =
                                                              some
                                                                (Ob.row
                                                                  [AV.int IntKind.i64 c.d, AV.int IntKind.i64 c.p,
                                                                    AV.int IntKind.i64 c.w, AV.int IntKind.i64 c.l,
                                                                    AV.int IntKind.i64 c.r, AV.int IntKind.i64 c.i,
                                                                    AV.int IntKind.i64 c.q, AV.int IntKind.i64 c.s]
                                                                  (23 : Nat))) ∧
                                                N
                                                  { i := wrapF IntKind.i64 (z.i.add (1 : Int)), pts := z.pts,
                                                    tr := true, hd := false, us := z.us,
                                                    x := z.x : Z })))))
                              (ifp (!eqInt (swdE z.x) (0 : Int)) False
                                (ifp
                                  (!eqInt
                                      (used
                                        { b := (swdL z.x).b,
                                          g := (swdL z.x).g,
                                          s := (swdL z.x).s : L })
                                      (wrapF IntKind.i64 (z.us.add (0 : Int))))
                                  False
                                  (ifp (!leInt (wrapF IntKind.i64 (z.us.add (0 : Int))) lim) False
                                    (ifp
                                      (!eqInt
                                          (rst
                                            c
                                            { b := (swdL z.x).b,
                                              g := (swdL z.x).g,
                                              s := (swdL z.x).s : L })
                                          (wrapF IntKind.i64 (lim.sub (wrapF IntKind.i64 (z.us.add (0 : Int))))))
                                      False
                                      (ifp (!leInt (swdL z.x).s (0 : Int)) False
                                        ((True ∧
                                            some (AV.vs sl n cap true none (1 : Nat)) =
                                                some (AV.vs sl n cap true none (1 : Nat)) ∧
                                              some (AV.ptr (0 : Nat) (0 : Nat)) = some (AV.ptr (0 : Nat) (0 : Nat)) ∧
                                                some (AV.ptr (1 : Nat) (0 : Nat)) = some (AV.ptr (1 : Nat) (0 : Nat)) ∧
                                                  some (AV.int IntKind.i64 (0 : Int)) =
                                                      some (AV.int IntKind.i64 (0 : Int)) ∧
                                                    some (AV.int IntKind.i64 lim) = some (AV.int IntKind.i64 lim) ∧
                                                      some
                                                          (Ob.row
                                                            [AV.int IntKind.i64 c.d, AV.int IntKind.i64 c.p,
                                                              AV.int IntKind.i64 c.w, AV.int IntKind.i64 c.l,
                                                              AV.int IntKind.i64 c.r, AV.int IntKind.i64 c.i,
                                                              AV.int IntKind.i64 c.q, AV.int IntKind.i64 c.s]
                                                            (23 : Nat)) =
                                                        some
                                                          (Ob.row
                                                            [AV.int IntKind.i64 c.d, AV.int IntKind.i64 c.p,
                                                              AV.int IntKind.i64 c.w, AV.int IntKind.i64 c.l,
                                                              AV.int IntKind.i64 c.r, AV.int IntKind.i64 c.i,
                                                              AV.int IntKind.i64 c.q, AV.int IntKind.i64 c.s]
                                                            (23 : Nat))) ∧
                                          N
                                            { i := wrapF IntKind.i64 (z.i.add (1 : Int)), pts := z.pts, tr := true,
                                              hd := false, us := wrapF IntKind.i64 (z.us.add (0 : Int)),
                                              x :=
                                                { b := (swdL z.x).b,
                                                  g := (swdL z.x).g,
                                                  s := (swdL z.x).s : L } :
                                              Z })))))))
                            (ifp (eqInt (swdE z.x) (7 : Int))
                              (ifp (leInt (wrapF IntKind.i64 (z.us.add (0 : Int))) lim) False
                                (idxOk z.i n ∧
                                  ∃ (x : Int),
                                    nth ((natOf z.i).mul (1 : Nat)) sl = some (AV.int IntKind.i64 x) ∧
                                      (5 : Int) ≠ (0 : Int) ∧
                                        ifp (eqInt (x.tmod (5 : Int)) (0 : Int))
                                          ((True ∧
                                              some (AV.vs sl n cap true none (1 : Nat)) =
                                                  some (AV.vs sl n cap true none (1 : Nat)) ∧
                                                some (AV.ptr (0 : Nat) (0 : Nat)) = some (AV.ptr (0 : Nat) (0 : Nat)) ∧
                                                  some (AV.ptr (1 : Nat) (0 : Nat)) =
                                                      some (AV.ptr (1 : Nat) (0 : Nat)) ∧
                                                    some (AV.int IntKind.i64 (0 : Int)) =
                                                        some (AV.int IntKind.i64 (0 : Int)) ∧
                                                      some (AV.int IntKind.i64 lim) = some (AV.int IntKind.i64 lim) ∧
                                                        some
                                                            (Ob.row
                                                              [AV.int IntKind.i64 c.d, AV.int IntKind.i64 c.p,
                                                                AV.int IntKind.i64 c.w, AV.int IntKind.i64 c.l,
                                                                AV.int IntKind.i64 c.r, AV.int IntKind.i64 c.i,
                                                                AV.int IntKind.i64 c.q, AV.int IntKind.i64 c.s]
                                                              (23 : Nat)) =
                                                          some
                                                            (Ob.row
                                                              [AV.int IntKind.i64 c.d, AV.int IntKind.i64 c.p,
                                                                AV.int IntKind.i64 c.w, AV.int IntKind.i64 c.l,
                                                                AV.int IntKind.i64 c.r, AV.int IntKind.i64 c.i,
                                                                AV.int IntKind.i64 c.q, AV.int IntKind.i64 c.s]
                                                              (23 : Nat))) ∧
                                            N
                                              { i := wrapF IntKind.i64 (z.i.add (1 : Int)),
                                                pts := wrapF IntKind.i64 (z.pts.sub (1 : Int)), tr := true, hd := true,
                                                us := z.us, x := z.x : Z })
                                          (ifp (eqInt (x.tmod (5 : Int)) (1 : Int))
                                            ((True ∧
                                                some (AV.vs sl n cap true none (1 : Nat)) =
                                                    some (AV.vs sl n cap true none (1 : Nat)) ∧
                                                  some (AV.ptr (0 : Nat) (0 : Nat)) =
                                                      some (AV.ptr (0 : Nat) (0 : Nat)) ∧
                                                    some (AV.ptr (1 : Nat) (0 : Nat)) =
                                                        some (AV.ptr (1 : Nat) (0 : Nat)) ∧
                                                      some (AV.int IntKind.i64 (0 : Int)) =
                                                          some (AV.int IntKind.i64 (0 : Int)) ∧
                                                        some (AV.int IntKind.i64 lim) = some (AV.int IntKind.i64 lim) ∧
                                                          some
                                                              (Ob.row
                                                                [AV.int IntKind.i64 c.d, AV.int IntKind.i64 c.p,
                                                                  AV.int IntKind.i64 c.w, AV.int IntKind.i64 c.l,
                                                                  AV.int IntKind.i64 c.r, AV.int IntKind.i64 c.i,
                                                                  AV.int IntKind.i64 c.q, AV.int IntKind.i64 c.s]
                                                                (23 : Nat)) =
                                                            some
                                                              (Ob.row
                                                                [AV.int IntKind.i64 c.d, AV.int IntKind.i64 c.p,
                                                                  AV.int IntKind.i64 c.w, AV.int IntKind.i64 c.l,
                                                                  AV.int IntKind.i64 c.r, AV.int IntKind.i64 c.i,
                                                                  AV.int IntKind.i64 c.q, AV.int IntKind.i64 c.s]
                                                                (23 : Nat))) ∧
                                              N
                                                { i := wrapF IntKind.i64 (z.i.add (1 : Int)),
                                                  pts := wrapF IntKind.i64 (z.pts.sub (1 : Int)), tr := true,
                                                  hd := true, us := z.us,
                                                  x := z.x : Z })
                                            (ifp (eqInt (x.tmod (5 : Int)) (2 : Int))
                                              ((True ∧
                                                  some (AV.vs sl n cap true none (1 : Nat)) =
                                                      some (AV.vs sl n cap true none (1 : Nat)) ∧
                                                    some (AV.ptr (0 : Nat) (0 : Nat)) =
                                                        some (AV.ptr (0 : Nat) (0 : Nat)) ∧
                                                      some (AV.ptr (1 : Nat) (0 : Nat)) =
                                                          some (AV.ptr (1 : Nat) (0 : Nat)) ∧
                                                        some (AV.int IntKind.i64 (0 : Int)) =
                                                            some (AV.int IntKind.i64 (0 : Int)) ∧
                                                          some (AV.int IntKind.i64 lim) =
                                                              some (AV.int IntKind.i64 lim) ∧
                                                            some
                                                                (Ob.row
                                                                  [AV.int IntKind.i64 c.d, AV.int IntKind.i64 c.p,
                                                                    AV.int IntKind.i64 c.w, AV.int IntKind.i64 c.l,
                                                                    AV.int IntKind.i64 c.r, AV.int IntKind.i64 c.i,
                                                                    AV.int IntKind.i64 c.q, AV.int IntKind.i64 c.s]
                                                                  (23 : Nat)) =
                                                              some
                                                                (Ob.row
                                                                  [AV.int IntKind.i64 c.d, AV.int IntKind.i64 c.p,
                                                                    AV.int IntKind.i64 c.w, AV.int IntKind.i64 c.l,
                                                                    AV.int IntKind.i64 c.r, AV.int IntKind.i64 c.i,
                                                                    AV.int IntKind.i64 c.q, AV.int IntKind.i64 c.s]
                                                                  (23 : Nat))) ∧
                                                N
                                                  { i := wrapF IntKind.i64 (z.i.add (1 : Int)),
                                                    pts := wrapF IntKind.i64 (z.pts.add (1 : Int)), tr := true,
                                                    hd := true, us := z.us,
                                                    x := z.x : Z })
                                              ((True ∧
                                                  some (AV.vs sl n cap true none (1 : Nat)) =
                                                      some (AV.vs sl n cap true none (1 : Nat)) ∧
                                                    some (AV.ptr (0 : Nat) (0 : Nat)) =
                                                        some (AV.ptr (0 : Nat) (0 : Nat)) ∧
                                                      some (AV.ptr (1 : Nat) (0 : Nat)) =
                                                          some (AV.ptr (1 : Nat) (0 : Nat)) ∧
                                                        some (AV.int IntKind.i64 (0 : Int)) =
                                                            some (AV.int IntKind.i64 (0 : Int)) ∧
                                                          some (AV.int IntKind.i64 lim) =
                                                              some (AV.int IntKind.i64 lim) ∧
                                                            some
                                                                (Ob.row
                                                                  [AV.int IntKind.i64 c.d, AV.int IntKind.i64 c.p,
                                                                    AV.int IntKind.i64 c.w, AV.int IntKind.i64 c.l,
                                                                    AV.int IntKind.i64 c.r, AV.int IntKind.i64 c.i,
                                                                    AV.int IntKind.i64 c.q, AV.int IntKind.i64 c.s]
                                                                  (23 : Nat)) =
                                                              some
                                                                (Ob.row
                                                                  [AV.int IntKind.i64 c.d, AV.int IntKind.i64 c.p,
                                                                    AV.int IntKind.i64 c.w, AV.int IntKind.i64 c.l,
                                                                    AV.int IntKind.i64 c.r, AV.int IntKind.i64 c.i,
                                                                    AV.int IntKind.i64 c.q, AV.int IntKind.i64 c.s]
                                                                  (23 : Nat))) ∧
                                                N
                                                  { i := wrapF IntKind.i64 (z.i.add (1 : Int)), pts := z.pts,
                                                    tr := true, hd := false, us := z.us,
                                                    x := z.x : Z })))))
                              (ifp (!eqInt (swdE z.x) (0 : Int)) False
                                (ifp
                                  (!eqInt
                                      (used
                                        { b := (swdL z.x).b,
                                          g := (swdL z.x).g,
                                          s := (swdL z.x).s : L })
                                      (wrapF IntKind.i64 (z.us.add (0 : Int))))
                                  False
                                  (ifp (!leInt (wrapF IntKind.i64 (z.us.add (0 : Int))) lim) False
                                    (ifp
                                      (!eqInt
                                          (rst
                                            c
                                            { b := (swdL z.x).b,
                                              g := (swdL z.x).g,
                                              s := (swdL z.x).s : L })
                                          (wrapF IntKind.i64 (lim.sub (wrapF IntKind.i64 (z.us.add (0 : Int))))))
                                      False
                                      (ifp (!leInt (swdL z.x).s (0 : Int))
                                        ((True ∧
                                            some (AV.vs sl n cap true none (1 : Nat)) =
                                                some (AV.vs sl n cap true none (1 : Nat)) ∧
                                              some (AV.ptr (0 : Nat) (0 : Nat)) = some (AV.ptr (0 : Nat) (0 : Nat)) ∧
                                                some (AV.ptr (1 : Nat) (0 : Nat)) = some (AV.ptr (1 : Nat) (0 : Nat)) ∧
                                                  some (AV.int IntKind.i64 (0 : Int)) =
                                                      some (AV.int IntKind.i64 (0 : Int)) ∧
                                                    some (AV.int IntKind.i64 lim) = some (AV.int IntKind.i64 lim) ∧
                                                      some
                                                          (Ob.row
                                                            [AV.int IntKind.i64 c.d, AV.int IntKind.i64 c.p,
                                                              AV.int IntKind.i64 c.w, AV.int IntKind.i64 c.l,
                                                              AV.int IntKind.i64 c.r, AV.int IntKind.i64 c.i,
                                                              AV.int IntKind.i64 c.q, AV.int IntKind.i64 c.s]
                                                            (23 : Nat)) =
                                                        some
                                                          (Ob.row
                                                            [AV.int IntKind.i64 c.d, AV.int IntKind.i64 c.p,
                                                              AV.int IntKind.i64 c.w, AV.int IntKind.i64 c.l,
                                                              AV.int IntKind.i64 c.r, AV.int IntKind.i64 c.i,
                                                              AV.int IntKind.i64 c.q, AV.int IntKind.i64 c.s]
                                                            (23 : Nat))) ∧
                                          N
                                            { i := wrapF IntKind.i64 (z.i.add (1 : Int)), pts := z.pts, tr := true,
                                              hd := true, us := wrapF IntKind.i64 (z.us.add (0 : Int)),
                                              x :=
                                                { b := (swdL z.x).b,
                                                  g := (swdL z.x).g,
                                                  s := (swdL z.x).s : L } :
                                              Z })
                                        False)))))))
                          (ifp z.hd
                            (ifp (eqInt (swdE z.x) (7 : Int))
                              (ifp (leInt (wrapF IntKind.i64 (z.us.add (0 : Int))) lim) False
                                (idxOk z.i n ∧
                                  ∃ (x : Int),
                                    nth ((natOf z.i).mul (1 : Nat)) sl = some (AV.int IntKind.i64 x) ∧
                                      (5 : Int) ≠ (0 : Int) ∧
                                        ifp (eqInt (x.tmod (5 : Int)) (0 : Int))
                                          ((True ∧
                                              some (AV.vs sl n cap true none (1 : Nat)) =
                                                  some (AV.vs sl n cap true none (1 : Nat)) ∧
                                                some (AV.ptr (0 : Nat) (0 : Nat)) = some (AV.ptr (0 : Nat) (0 : Nat)) ∧
                                                  some (AV.ptr (1 : Nat) (0 : Nat)) =
                                                      some (AV.ptr (1 : Nat) (0 : Nat)) ∧
                                                    some (AV.int IntKind.i64 (0 : Int)) =
                                                        some (AV.int IntKind.i64 (0 : Int)) ∧
                                                      some (AV.int IntKind.i64 lim) = some (AV.int IntKind.i64 lim) ∧
                                                        some
                                                            (Ob.row
                                                              [AV.int IntKind.i64 c.d, AV.int IntKind.i64 c.p,
                                                                AV.int IntKind.i64 c.w, AV.int IntKind.i64 c.l,
                                                                AV.int IntKind.i64 c.r, AV.int IntKind.i64 c.i,
                                                                AV.int IntKind.i64 c.q, AV.int IntKind.i64 c.s]
                                                              (23 : Nat)) =
                                                          some
                                                            (Ob.row
                                                              [AV.int IntKind.i64 c.d, AV.int IntKind.i64 c.p,
                                                                AV.int IntKind.i64 c.w, AV.int IntKind.i64 c.l,
                                                                AV.int IntKind.i64 c.r, AV.int IntKind.i64 c.i,
                                                                AV.int IntKind.i64 c.q, AV.int IntKind.i64 c.s]
                                                              (23 : Nat))) ∧
                                            N
                                              { i := wrapF IntKind.i64 (z.i.add (1 : Int)),
                                                pts := wrapF IntKind.i64 (z.pts.sub (1 : Int)), tr := false,
                                                hd := false, us := z.us,
                                                x := z.x : Z })
                                          (ifp (eqInt (x.tmod (5 : Int)) (1 : Int))
                                            ((True ∧
                                                some (AV.vs sl n cap true none (1 : Nat)) =
                                                    some (AV.vs sl n cap true none (1 : Nat)) ∧
                                                  some (AV.ptr (0 : Nat) (0 : Nat)) =
                                                      some (AV.ptr (0 : Nat) (0 : Nat)) ∧
                                                    some (AV.ptr (1 : Nat) (0 : Nat)) =
                                                        some (AV.ptr (1 : Nat) (0 : Nat)) ∧
                                                      some (AV.int IntKind.i64 (0 : Int)) =
                                                          some (AV.int IntKind.i64 (0 : Int)) ∧
                                                        some (AV.int IntKind.i64 lim) = some (AV.int IntKind.i64 lim) ∧
                                                          some
                                                              (Ob.row
                                                                [AV.int IntKind.i64 c.d, AV.int IntKind.i64 c.p,
                                                                  AV.int IntKind.i64 c.w, AV.int IntKind.i64 c.l,
                                                                  AV.int IntKind.i64 c.r, AV.int IntKind.i64 c.i,
                                                                  AV.int IntKind.i64 c.q, AV.int IntKind.i64 c.s]
                                                                (23 : Nat)) =
                                                            some
                                                              (Ob.row
                                                                [AV.int IntKind.i64 c.d, AV.int IntKind.i64 c.p,
                                                                  AV.int IntKind.i64 c.w, AV.int IntKind.i64 c.l,
                                                                  AV.int IntKind.i64 c.r, AV.int IntKind.i64 c.i,
                                                                  AV.int IntKind.i64 c.q, AV.int IntKind.i64 c.s]
                                                                (23 : Nat))) ∧
                                              N
                                                { i := wrapF IntKind.i64 (z.i.add (1 : Int)),
                                                  pts := wrapF IntKind.i64 (z.pts.sub (1 : Int)), tr := false,
                                                  hd := false, us := z.us,
                                                  x := z.x : Z })
                                            (ifp (eqInt (x.tmod (5 : Int)) (2 : Int))
                                              ((True ∧
                                                  some (AV.vs sl n cap true none (1 : Nat)) =
                                                      some (AV.vs sl n cap true none (1 : Nat)) ∧
                                                    some (AV.ptr (0 : Nat) (0 : Nat)) =
                                                        some (AV.ptr (0 : Nat) (0 : Nat)) ∧
                                                      some (AV.ptr (1 : Nat) (0 : Nat)) =
                                                          some (AV.ptr (1 : Nat) (0 : Nat)) ∧
                                                        some (AV.int IntKind.i64 (0 : Int)) =
                                                            some (AV.int IntKind.i64 (0 : Int)) ∧
                                                          some (AV.int IntKind.i64 lim) =
                                                              some (AV.int IntKind.i64 lim) ∧
                                                            some
                                                                (Ob.row
                                                                  [AV.int IntKind.i64 c.d, AV.int IntKind.i64 c.p,
                                                                    AV.int IntKind.i64 c.w, AV.int IntKind.i64 c.l,
                                                                    AV.int IntKind.i64 c.r, AV.int IntKind.i64 c.i,
                                                                    AV.int IntKind.i64 c.q, AV.int IntKind.i64 c.s]
                                                                  (23 : Nat)) =
                                                              some
                                                                (Ob.row
                                                                  [AV.int IntKind.i64 c.d, AV.int IntKind.i64 c.p,
                                                                    AV.int IntKind.i64 c.w, AV.int IntKind.i64 c.l,
                                                                    AV.int IntKind.i64 c.r, AV.int IntKind.i64 c.i,
                                                                    AV.int IntKind.i64 c.q, AV.int IntKind.i64 c.s]
                                                                  (23 : Nat))) ∧
                                                N
                                                  { i := wrapF IntKind.i64 (z.i.add (1 : Int)),
                                                    pts := wrapF IntKind.i64 (z.pts.add (1 : Int)), tr := false,
                                                    hd := false, us := z.us,
                                                    x := z.x : Z })
                                              ((True ∧
                                                  some (AV.vs sl n cap true none (1 : Nat)) =
                                                      some (AV.vs sl n cap true none (1 : Nat)) ∧
                                                    some (AV.ptr (0 : Nat) (0 : Nat)) =
                                                        some (AV.ptr (0 : Nat) (0 : Nat)) ∧
                                                      some (AV.ptr (1 : Nat) (0 : Nat)) =
                                                          some (AV.ptr (1 : Nat) (0 : Nat)) ∧
                                                        some (AV.int IntKind.i64 (0 : Int)) =
                                                            some (AV.int IntKind.i64 (0 : Int)) ∧
                                                          some (AV.int IntKind.i64 lim) =
                                                              some (AV.int IntKind.i64 lim) ∧
                                                            some
                                                                (Ob.row
                                                                  [AV.int IntKind.i64 c.d, AV.int IntKind.i64 c.p,
                                                                    AV.int IntKind.i64 c.w, AV.int IntKind.i64 c.l,
                                                                    AV.int IntKind.i64 c.r, AV.int IntKind.i64 c.i,
                                                                    AV.int IntKind.i64 c.q, AV.int IntKind.i64 c.s]
                                                                  (23 : Nat)) =
                                                              some
                                                                (Ob.row
                                                                  [AV.int IntKind.i64 c.d, AV.int IntKind.i64 c.p,
                                                                    AV.int IntKind.i64 c.w, AV.int IntKind.i64 c.l,
                                                                    AV.int IntKind.i64 c.r, AV.int IntKind.i64 c.i,
                                                                    AV.int IntKind.i64 c.q, AV.int IntKind.i64 c.s]
                                                                  (23 : Nat))) ∧
                                                N
                                                  { i := wrapF IntKind.i64 (z.i.add (1 : Int)), pts := z.pts,
                                                    tr := false, hd := false, us := z.us,
                                                    x := z.x : Z })))))
                              (ifp (!eqInt (swdE z.x) (0 : Int)) False
                                (ifp
                                  (!eqInt
                                      (used
                                        { b := (swdL z.x).b,
                                          g := (swdL z.x).g,
                                          s := (swdL z.x).s : L })
                                      (wrapF IntKind.i64 (z.us.add (0 : Int))))
                                  False
                                  (ifp (!leInt (wrapF IntKind.i64 (z.us.add (0 : Int))) lim) False
                                    (ifp
                                      (!eqInt
                                          (rst
                                            c
                                            { b := (swdL z.x).b,
                                              g := (swdL z.x).g,
                                              s := (swdL z.x).s : L })
                                          (wrapF IntKind.i64 (lim.sub (wrapF IntKind.i64 (z.us.add (0 : Int))))))
                                      False
                                      (ifp (!leInt (swdL z.x).s (0 : Int)) False
                                        ((True ∧
                                            some (AV.vs sl n cap true none (1 : Nat)) =
                                                some (AV.vs sl n cap true none (1 : Nat)) ∧
                                              some (AV.ptr (0 : Nat) (0 : Nat)) = some (AV.ptr (0 : Nat) (0 : Nat)) ∧
                                                some (AV.ptr (1 : Nat) (0 : Nat)) = some (AV.ptr (1 : Nat) (0 : Nat)) ∧
                                                  some (AV.int IntKind.i64 (0 : Int)) =
                                                      some (AV.int IntKind.i64 (0 : Int)) ∧
                                                    some (AV.int IntKind.i64 lim) = some (AV.int IntKind.i64 lim) ∧
                                                      some
                                                          (Ob.row
                                                            [AV.int IntKind.i64 c.d, AV.int IntKind.i64 c.p,
                                                              AV.int IntKind.i64 c.w, AV.int IntKind.i64 c.l,
                                                              AV.int IntKind.i64 c.r, AV.int IntKind.i64 c.i,
                                                              AV.int IntKind.i64 c.q, AV.int IntKind.i64 c.s]
                                                            (23 : Nat)) =
                                                        some
                                                          (Ob.row
                                                            [AV.int IntKind.i64 c.d, AV.int IntKind.i64 c.p,
                                                              AV.int IntKind.i64 c.w, AV.int IntKind.i64 c.l,
                                                              AV.int IntKind.i64 c.r, AV.int IntKind.i64 c.i,
                                                              AV.int IntKind.i64 c.q, AV.int IntKind.i64 c.s]
                                                            (23 : Nat))) ∧
                                          N
                                            { i := wrapF IntKind.i64 (z.i.add (1 : Int)), pts := z.pts, tr := false,
                                              hd := false, us := wrapF IntKind.i64 (z.us.add (0 : Int)),
                                              x :=
                                                { b := (swdL z.x).b,
                                                  g := (swdL z.x).g,
                                                  s := (swdL z.x).s : L } :
                                              Z })))))))
                            (ifp (eqInt (swdE z.x) (7 : Int))
                              (ifp (leInt (wrapF IntKind.i64 (z.us.add (0 : Int))) lim) False
                                (idxOk z.i n ∧
                                  ∃ (x : Int),
                                    nth ((natOf z.i).mul (1 : Nat)) sl = some (AV.int IntKind.i64 x) ∧
                                      (5 : Int) ≠ (0 : Int) ∧
                                        ifp (eqInt (x.tmod (5 : Int)) (0 : Int))
                                          ((True ∧
                                              some (AV.vs sl n cap true none (1 : Nat)) =
                                                  some (AV.vs sl n cap true none (1 : Nat)) ∧
                                                some (AV.ptr (0 : Nat) (0 : Nat)) = some (AV.ptr (0 : Nat) (0 : Nat)) ∧
                                                  some (AV.ptr (1 : Nat) (0 : Nat)) =
                                                      some (AV.ptr (1 : Nat) (0 : Nat)) ∧
                                                    some (AV.int IntKind.i64 (0 : Int)) =
                                                        some (AV.int IntKind.i64 (0 : Int)) ∧
                                                      some (AV.int IntKind.i64 lim) = some (AV.int IntKind.i64 lim) ∧
                                                        some
                                                            (Ob.row
                                                              [AV.int IntKind.i64 c.d, AV.int IntKind.i64 c.p,
                                                                AV.int IntKind.i64 c.w, AV.int IntKind.i64 c.l,
                                                                AV.int IntKind.i64 c.r, AV.int IntKind.i64 c.i,
                                                                AV.int IntKind.i64 c.q, AV.int IntKind.i64 c.s]
                                                              (23 : Nat)) =
                                                          some
                                                            (Ob.row
                                                              [AV.int IntKind.i64 c.d, AV.int IntKind.i64 c.p,
                                                                AV.int IntKind.i64 c.w, AV.int IntKind.i64 c.l,
                                                                AV.int IntKind.i64 c.r, AV.int IntKind.i64 c.i,
                                                                AV.int IntKind.i64 c.q, AV.int IntKind.i64 c.s]
                                                              (23 : Nat))) ∧
                                            N
                                              { i := wrapF IntKind.i64 (z.i.add (1 : Int)),
                                                pts := wrapF IntKind.i64 (z.pts.sub (1 : Int)), tr := false, hd := true,
                                                us := z.us, x := z.x : Z })
                                          (ifp (eqInt (x.tmod (5 : Int)) (1 : Int))
                                            ((True ∧
                                                some (AV.vs sl n cap true none (1 : Nat)) =
                                                    some (AV.vs sl n cap true none (1 : Nat)) ∧
                                                  some (AV.ptr (0 : Nat) (0 : Nat)) =
                                                      some (AV.ptr (0 : Nat) (0 : Nat)) ∧
                                                    some (AV.ptr (1 : Nat) (0 : Nat)) =
                                                        some (AV.ptr (1 : Nat) (0 : Nat)) ∧
                                                      some (AV.int IntKind.i64 (0 : Int)) =
                                                          some (AV.int IntKind.i64 (0 : Int)) ∧
                                                        some (AV.int IntKind.i64 lim) = some (AV.int IntKind.i64 lim) ∧
                                                          some
                                                              (Ob.row
                                                                [AV.int IntKind.i64 c.d, AV.int IntKind.i64 c.p,
                                                                  AV.int IntKind.i64 c.w, AV.int IntKind.i64 c.l,
                                                                  AV.int IntKind.i64 c.r, AV.int IntKind.i64 c.i,
                                                                  AV.int IntKind.i64 c.q, AV.int IntKind.i64 c.s]
                                                                (23 : Nat)) =
                                                            some
                                                              (Ob.row
                                                                [AV.int IntKind.i64 c.d, AV.int IntKind.i64 c.p,
                                                                  AV.int IntKind.i64 c.w, AV.int IntKind.i64 c.l,
                                                                  AV.int IntKind.i64 c.r, AV.int IntKind.i64 c.i,
                                                                  AV.int IntKind.i64 c.q, AV.int IntKind.i64 c.s]
                                                                (23 : Nat))) ∧
                                              N
                                                { i := wrapF IntKind.i64 (z.i.add (1 : Int)),
                                                  pts := wrapF IntKind.i64 (z.pts.sub (1 : Int)), tr := false,
                                                  hd := true, us := z.us,
                                                  x := z.x : Z })
                                            (ifp (eqInt (x.tmod (5 : Int)) (2 : Int))
                                              ((True ∧
                                                  some (AV.vs sl n cap true none (1 : Nat)) =
                                                      some (AV.vs sl n cap true none (1 : Nat)) ∧
                                                    some (AV.ptr (0 : Nat) (0 : Nat)) =
                                                        some (AV.ptr (0 : Nat) (0 : Nat)) ∧
                                                      some (AV.ptr (1 : Nat) (0 : Nat)) =
                                                          some (AV.ptr (1 : Nat) (0 : Nat)) ∧
                                                        some (AV.int IntKind.i64 (0 : Int)) =
                                                            some (AV.int IntKind.i64 (0 : Int)) ∧
                                                          some (AV.int IntKind.i64 lim) =
                                                              some (AV.int IntKind.i64 lim) ∧
                                                            some
                                                                (Ob.row
                                                                  [AV.int IntKind.i64 c.d, AV.int IntKind.i64 c.p,
                                                                    AV.int IntKind.i64 c.w, AV.int IntKind.i64 c.l,
                                                                    AV.int IntKind.i64 c.r, AV.int IntKind.i64 c.i,
                                                                    AV.int IntKind.i64 c.q, AV.int IntKind.i64 c.s]
                                                                  (23 : Nat)) =
                                                              some
                                                                (Ob.row
                                                                  [AV.int IntKind.i64 c.d, AV.int IntKind.i64 c.p,
                                                                    AV.int IntKind.i64 c.w, AV.int IntKind.i64 c.l,
                                                                    AV.int IntKind.i64 c.r, AV.int IntKind.i64 c.i,
                                                                    AV.int IntKind.i64 c.q, AV.int IntKind.i64 c.s]
                                                                  (23 : Nat))) ∧
                                                N
                                                  { i := wrapF IntKind.i64 (z.i.add (1 : Int)),
                                                    pts := wrapF IntKind.i64 (z.pts.add (1 : Int)), tr := false,
                                                    hd := true, us := z.us,
                                                    x := z.x : Z })
                                              ((True ∧
                                                  some (AV.vs sl n cap true none (1 : Nat)) =
                                                      some (AV.vs sl n cap true none (1 : Nat)) ∧
                                                    some (AV.ptr (0 : Nat) (0 : Nat)) =
                                                        some (AV.ptr (0 : Nat) (0 : Nat)) ∧
                                                      some (AV.ptr (1 : Nat) (0 : Nat)) =
                                                          some (AV.ptr (1 : Nat) (0 : Nat)) ∧
                                                        some (AV.int IntKind.i64 (0 : Int)) =
                                                            some (AV.int IntKind.i64 (0 : Int)) ∧
                                                          some (AV.int IntKind.i64 lim) =
                                                              some (AV.int IntKind.i64 lim) ∧
                                                            some
                                                                (Ob.row
                                                                  [AV.int IntKind.i64 c.d, AV.int IntKind.i64 c.p,
                                                                    AV.int IntKind.i64 c.w, AV.int IntKind.i64 c.l,
                                                                    AV.int IntKind.i64 c.r, AV.int IntKind.i64 c.i,
                                                                    AV.int IntKind.i64 c.q, AV.int IntKind.i64 c.s]
                                                                  (23 : Nat)) =
                                                              some
                                                                (Ob.row
                                                                  [AV.int IntKind.i64 c.d, AV.int IntKind.i64 c.p,
                                                                    AV.int IntKind.i64 c.w, AV.int IntKind.i64 c.l,
                                                                    AV.int IntKind.i64 c.r, AV.int IntKind.i64 c.i,
                                                                    AV.int IntKind.i64 c.q, AV.int IntKind.i64 c.s]
                                                                  (23 : Nat))) ∧
                                                N
                                                  { i := wrapF IntKind.i64 (z.i.add (1 : Int)), pts := z.pts,
                                                    tr := false, hd := false, us := z.us,
                                                    x := z.x : Z })))))
                              (ifp (!eqInt (swdE z.x) (0 : Int)) False
                                (ifp
                                  (!eqInt
                                      (used
                                        { b := (swdL z.x).b,
                                          g := (swdL z.x).g,
                                          s := (swdL z.x).s : L })
                                      (wrapF IntKind.i64 (z.us.add (0 : Int))))
                                  False
                                  (ifp (!leInt (wrapF IntKind.i64 (z.us.add (0 : Int))) lim) False
                                    (ifp
                                      (!eqInt
                                          (rst
                                            c
                                            { b := (swdL z.x).b,
                                              g := (swdL z.x).g,
                                              s := (swdL z.x).s : L })
                                          (wrapF IntKind.i64 (lim.sub (wrapF IntKind.i64 (z.us.add (0 : Int))))))
                                      False
                                      (ifp (!leInt (swdL z.x).s (0 : Int))
                                        ((True ∧
                                            some (AV.vs sl n cap true none (1 : Nat)) =
                                                some (AV.vs sl n cap true none (1 : Nat)) ∧
                                              some (AV.ptr (0 : Nat) (0 : Nat)) = some (AV.ptr (0 : Nat) (0 : Nat)) ∧
                                                some (AV.ptr (1 : Nat) (0 : Nat)) = some (AV.ptr (1 : Nat) (0 : Nat)) ∧
                                                  some (AV.int IntKind.i64 (0 : Int)) =
                                                      some (AV.int IntKind.i64 (0 : Int)) ∧
                                                    some (AV.int IntKind.i64 lim) = some (AV.int IntKind.i64 lim) ∧
                                                      some
                                                          (Ob.row
                                                            [AV.int IntKind.i64 c.d, AV.int IntKind.i64 c.p,
                                                              AV.int IntKind.i64 c.w, AV.int IntKind.i64 c.l,
                                                              AV.int IntKind.i64 c.r, AV.int IntKind.i64 c.i,
                                                              AV.int IntKind.i64 c.q, AV.int IntKind.i64 c.s]
                                                            (23 : Nat)) =
                                                        some
                                                          (Ob.row
                                                            [AV.int IntKind.i64 c.d, AV.int IntKind.i64 c.p,
                                                              AV.int IntKind.i64 c.w, AV.int IntKind.i64 c.l,
                                                              AV.int IntKind.i64 c.r, AV.int IntKind.i64 c.i,
                                                              AV.int IntKind.i64 c.q, AV.int IntKind.i64 c.s]
                                                            (23 : Nat))) ∧
                                          N
                                            { i := wrapF IntKind.i64 (z.i.add (1 : Int)), pts := z.pts, tr := false,
                                              hd := true, us := wrapF IntKind.i64 (z.us.add (0 : Int)),
                                              x :=
                                                { b := (swdL z.x).b,
                                                  g := (swdL z.x).g,
                                                  s := (swdL z.x).s : L } :
                                              Z })
                                        False)))))))))
                      (ifp z.hd
                        (ifp
                          (eqInt
                            (hldE c
                              z.x)
                            (7 : Int))
                          (ifp
                            (leInt
                              (wrapF IntKind.i64
                                (z.us.add
                                  (swp
                                    c)))
                              lim)
                            False
                            (idxOk z.i n ∧
                              ∃ (x : Int),
                                nth ((natOf z.i).mul (1 : Nat)) sl = some (AV.int IntKind.i64 x) ∧
                                  (5 : Int) ≠ (0 : Int) ∧
                                    ifp (eqInt (x.tmod (5 : Int)) (0 : Int))
                                      ((True ∧
                                          some (AV.vs sl n cap true none (1 : Nat)) =
                                              some (AV.vs sl n cap true none (1 : Nat)) ∧
                                            some (AV.ptr (0 : Nat) (0 : Nat)) = some (AV.ptr (0 : Nat) (0 : Nat)) ∧
                                              some (AV.ptr (1 : Nat) (0 : Nat)) = some (AV.ptr (1 : Nat) (0 : Nat)) ∧
                                                some (AV.int IntKind.i64 (0 : Int)) =
                                                    some (AV.int IntKind.i64 (0 : Int)) ∧
                                                  some (AV.int IntKind.i64 lim) = some (AV.int IntKind.i64 lim) ∧
                                                    some
                                                        (Ob.row
                                                          [AV.int IntKind.i64 c.d, AV.int IntKind.i64 c.p,
                                                            AV.int IntKind.i64 c.w, AV.int IntKind.i64 c.l,
                                                            AV.int IntKind.i64 c.r, AV.int IntKind.i64 c.i,
                                                            AV.int IntKind.i64 c.q, AV.int IntKind.i64 c.s]
                                                          (23 : Nat)) =
                                                      some
                                                        (Ob.row
                                                          [AV.int IntKind.i64 c.d, AV.int IntKind.i64 c.p,
                                                            AV.int IntKind.i64 c.w, AV.int IntKind.i64 c.l,
                                                            AV.int IntKind.i64 c.r, AV.int IntKind.i64 c.i,
                                                            AV.int IntKind.i64 c.q, AV.int IntKind.i64 c.s]
                                                          (23 : Nat))) ∧
                                        N
                                          { i := wrapF IntKind.i64 (z.i.add (1 : Int)),
                                            pts := wrapF IntKind.i64 (z.pts.sub (1 : Int)), tr := z.tr, hd := false,
                                            us := z.us, x := z.x : Z })
                                      (ifp (eqInt (x.tmod (5 : Int)) (1 : Int))
                                        ((True ∧
                                            some (AV.vs sl n cap true none (1 : Nat)) =
                                                some (AV.vs sl n cap true none (1 : Nat)) ∧
                                              some (AV.ptr (0 : Nat) (0 : Nat)) = some (AV.ptr (0 : Nat) (0 : Nat)) ∧
                                                some (AV.ptr (1 : Nat) (0 : Nat)) = some (AV.ptr (1 : Nat) (0 : Nat)) ∧
                                                  some (AV.int IntKind.i64 (0 : Int)) =
                                                      some (AV.int IntKind.i64 (0 : Int)) ∧
                                                    some (AV.int IntKind.i64 lim) = some (AV.int IntKind.i64 lim) ∧
                                                      some
                                                          (Ob.row
                                                            [AV.int IntKind.i64 c.d, AV.int IntKind.i64 c.p,
                                                              AV.int IntKind.i64 c.w, AV.int IntKind.i64 c.l,
                                                              AV.int IntKind.i64 c.r, AV.int IntKind.i64 c.i,
                                                              AV.int IntKind.i64 c.q, AV.int IntKind.i64 c.s]
                                                            (23 : Nat)) =
                                                        some
                                                          (Ob.row
                                                            [AV.int IntKind.i64 c.d, AV.int IntKind.i64 c.p,
                                                              AV.int IntKind.i64 c.w, AV.int IntKind.i64 c.l,
                                                              AV.int IntKind.i64 c.r, AV.int IntKind.i64 c.i,
                                                              AV.int IntKind.i64 c.q, AV.int IntKind.i64 c.s]
                                                            (23 : Nat))) ∧
                                          N
                                            { i := wrapF IntKind.i64 (z.i.add (1 : Int)),
                                              pts := wrapF IntKind.i64 (z.pts.sub (1 : Int)), tr := z.tr, hd := false,
                                              us := z.us, x := z.x : Z })
                                        (ifp (eqInt (x.tmod (5 : Int)) (2 : Int))
                                          ((True ∧
                                              some (AV.vs sl n cap true none (1 : Nat)) =
                                                  some (AV.vs sl n cap true none (1 : Nat)) ∧
                                                some (AV.ptr (0 : Nat) (0 : Nat)) = some (AV.ptr (0 : Nat) (0 : Nat)) ∧
                                                  some (AV.ptr (1 : Nat) (0 : Nat)) =
                                                      some (AV.ptr (1 : Nat) (0 : Nat)) ∧
                                                    some (AV.int IntKind.i64 (0 : Int)) =
                                                        some (AV.int IntKind.i64 (0 : Int)) ∧
                                                      some (AV.int IntKind.i64 lim) = some (AV.int IntKind.i64 lim) ∧
                                                        some
                                                            (Ob.row
                                                              [AV.int IntKind.i64 c.d, AV.int IntKind.i64 c.p,
                                                                AV.int IntKind.i64 c.w, AV.int IntKind.i64 c.l,
                                                                AV.int IntKind.i64 c.r, AV.int IntKind.i64 c.i,
                                                                AV.int IntKind.i64 c.q, AV.int IntKind.i64 c.s]
                                                              (23 : Nat)) =
                                                          some
                                                            (Ob.row
                                                              [AV.int IntKind.i64 c.d, AV.int IntKind.i64 c.p,
                                                                AV.int IntKind.i64 c.w, AV.int IntKind.i64 c.l,
                                                                AV.int IntKind.i64 c.r, AV.int IntKind.i64 c.i,
                                                                AV.int IntKind.i64 c.q, AV.int IntKind.i64 c.s]
                                                              (23 : Nat))) ∧
                                            N
                                              { i := wrapF IntKind.i64 (z.i.add (1 : Int)),
                                                pts := wrapF IntKind.i64 (z.pts.add (1 : Int)), tr := z.tr, hd := false,
                                                us := z.us, x := z.x : Z })
                                          ((True ∧
                                              some (AV.vs sl n cap true none (1 : Nat)) =
                                                  some (AV.vs sl n cap true none (1 : Nat)) ∧
                                                some (AV.ptr (0 : Nat) (0 : Nat)) = some (AV.ptr (0 : Nat) (0 : Nat)) ∧
                                                  some (AV.ptr (1 : Nat) (0 : Nat)) =
                                                      some (AV.ptr (1 : Nat) (0 : Nat)) ∧
                                                    some (AV.int IntKind.i64 (0 : Int)) =
                                                        some (AV.int IntKind.i64 (0 : Int)) ∧
                                                      some (AV.int IntKind.i64 lim) = some (AV.int IntKind.i64 lim) ∧
                                                        some
                                                            (Ob.row
                                                              [AV.int IntKind.i64 c.d, AV.int IntKind.i64 c.p,
                                                                AV.int IntKind.i64 c.w, AV.int IntKind.i64 c.l,
                                                                AV.int IntKind.i64 c.r, AV.int IntKind.i64 c.i,
                                                                AV.int IntKind.i64 c.q, AV.int IntKind.i64 c.s]
                                                              (23 : Nat)) =
                                                          some
                                                            (Ob.row
                                                              [AV.int IntKind.i64 c.d, AV.int IntKind.i64 c.p,
                                                                AV.int IntKind.i64 c.w, AV.int IntKind.i64 c.l,
                                                                AV.int IntKind.i64 c.r, AV.int IntKind.i64 c.i,
                                                                AV.int IntKind.i64 c.q, AV.int IntKind.i64 c.s]
                                                              (23 : Nat))) ∧
                                            N
                                              { i := wrapF IntKind.i64 (z.i.add (1 : Int)), pts := z.pts, tr := z.tr,
                                                hd := false, us := z.us,
                                                x := z.x : Z })))))
                          (ifp
                            (!eqInt
                                (hldE
                                  c
                                  z.x)
                                (0 : Int))
                            False
                            (ifp
                              (!eqInt
                                  (used
                                    {
                                      b :=
                                        (hldL
                                            c
                                            z.x).b,
                                      g :=
                                        (hldL
                                            c
                                            z.x).g,
                                      s :=
                                        (hldL
                                            c
                                            z.x).s : L })
                                  (wrapF IntKind.i64
                                    (z.us.add
                                      (swp
                                        c))))
                              False
                              (ifp
                                (!leInt
                                    (wrapF IntKind.i64
                                      (z.us.add
                                        (swp
                                          c)))
                                    lim)
                                False
                                (ifp
                                  (!eqInt
                                      (rst
                                        c
                                        {
                                          b :=
                                            (hldL
                                                c
                                                z.x).b,
                                          g :=
                                            (hldL
                                                c
                                                z.x).g,
                                          s :=
                                            (hldL
                                                c
                                                z.x).s : L })
                                      (wrapF IntKind.i64
                                        (lim.sub
                                          (wrapF IntKind.i64
                                            (z.us.add
                                              (swp
                                                c))))))
                                  False
                                  (ifp
                                    (!leInt
                                        (hldL
                                            c
                                            z.x).s
                                        (0 : Int))
                                    False
                                    ((True ∧
                                        some (AV.vs sl n cap true none (1 : Nat)) =
                                            some (AV.vs sl n cap true none (1 : Nat)) ∧
                                          some (AV.ptr (0 : Nat) (0 : Nat)) = some (AV.ptr (0 : Nat) (0 : Nat)) ∧
                                            some (AV.ptr (1 : Nat) (0 : Nat)) = some (AV.ptr (1 : Nat) (0 : Nat)) ∧
                                              some (AV.int IntKind.i64 (0 : Int)) =
                                                  some (AV.int IntKind.i64 (0 : Int)) ∧
                                                some (AV.int IntKind.i64 lim) = some (AV.int IntKind.i64 lim) ∧
                                                  some
                                                      (Ob.row
                                                        [AV.int IntKind.i64 c.d, AV.int IntKind.i64 c.p,
                                                          AV.int IntKind.i64 c.w, AV.int IntKind.i64 c.l,
                                                          AV.int IntKind.i64 c.r, AV.int IntKind.i64 c.i,
                                                          AV.int IntKind.i64 c.q, AV.int IntKind.i64 c.s]
                                                        (23 : Nat)) =
                                                    some
                                                      (Ob.row
                                                        [AV.int IntKind.i64 c.d, AV.int IntKind.i64 c.p,
                                                          AV.int IntKind.i64 c.w, AV.int IntKind.i64 c.l,
                                                          AV.int IntKind.i64 c.r, AV.int IntKind.i64 c.i,
                                                          AV.int IntKind.i64 c.q, AV.int IntKind.i64 c.s]
                                                        (23 : Nat))) ∧
                                      N
                                        { i := wrapF IntKind.i64 (z.i.add (1 : Int)), pts := z.pts, tr := z.tr,
                                          hd := false,
                                          us :=
                                            wrapF IntKind.i64
                                              (z.us.add
                                                (swp
                                                  c)),
                                          x :=
                                            {
                                              b :=
                                                (hldL
                                                    c
                                                    z.x).b,
                                              g :=
                                                (hldL
                                                    c
                                                    z.x).g,
                                              s :=
                                                (hldL
                                                    c
                                                    z.x).s : L } :
                                          Z })))))))
                        (ifp
                          (eqInt
                            (hldE c
                              z.x)
                            (7 : Int))
                          (ifp
                            (leInt
                              (wrapF IntKind.i64
                                (z.us.add
                                  (swp
                                    c)))
                              lim)
                            False
                            (idxOk z.i n ∧
                              ∃ (x : Int),
                                nth ((natOf z.i).mul (1 : Nat)) sl = some (AV.int IntKind.i64 x) ∧
                                  (5 : Int) ≠ (0 : Int) ∧
                                    ifp (eqInt (x.tmod (5 : Int)) (0 : Int))
                                      ((True ∧
                                          some (AV.vs sl n cap true none (1 : Nat)) =
                                              some (AV.vs sl n cap true none (1 : Nat)) ∧
                                            some (AV.ptr (0 : Nat) (0 : Nat)) = some (AV.ptr (0 : Nat) (0 : Nat)) ∧
                                              some (AV.ptr (1 : Nat) (0 : Nat)) = some (AV.ptr (1 : Nat) (0 : Nat)) ∧
                                                some (AV.int IntKind.i64 (0 : Int)) =
                                                    some (AV.int IntKind.i64 (0 : Int)) ∧
                                                  some (AV.int IntKind.i64 lim) = some (AV.int IntKind.i64 lim) ∧
                                                    some
                                                        (Ob.row
                                                          [AV.int IntKind.i64 c.d, AV.int IntKind.i64 c.p,
                                                            AV.int IntKind.i64 c.w, AV.int IntKind.i64 c.l,
                                                            AV.int IntKind.i64 c.r, AV.int IntKind.i64 c.i,
                                                            AV.int IntKind.i64 c.q, AV.int IntKind.i64 c.s]
                                                          (23 : Nat)) =
                                                      some
                                                        (Ob.row
                                                          [AV.int IntKind.i64 c.d, AV.int IntKind.i64 c.p,
                                                            AV.int IntKind.i64 c.w, AV.int IntKind.i64 c.l,
                                                            AV.int IntKind.i64 c.r, AV.int IntKind.i64 c.i,
                                                            AV.int IntKind.i64 c.q, AV.int IntKind.i64 c.s]
                                                          (23 : Nat))) ∧
                                        N
                                          { i := wrapF IntKind.i64 (z.i.add (1 : Int)),
                                            pts := wrapF IntKind.i64 (z.pts.sub (1 : Int)), tr := z.tr, hd := true,
                                            us := z.us, x := z.x : Z })
                                      (ifp (eqInt (x.tmod (5 : Int)) (1 : Int))
                                        ((True ∧
                                            some (AV.vs sl n cap true none (1 : Nat)) =
                                                some (AV.vs sl n cap true none (1 : Nat)) ∧
                                              some (AV.ptr (0 : Nat) (0 : Nat)) = some (AV.ptr (0 : Nat) (0 : Nat)) ∧
                                                some (AV.ptr (1 : Nat) (0 : Nat)) = some (AV.ptr (1 : Nat) (0 : Nat)) ∧
                                                  some (AV.int IntKind.i64 (0 : Int)) =
                                                      some (AV.int IntKind.i64 (0 : Int)) ∧
                                                    some (AV.int IntKind.i64 lim) = some (AV.int IntKind.i64 lim) ∧
                                                      some
                                                          (Ob.row
                                                            [AV.int IntKind.i64 c.d, AV.int IntKind.i64 c.p,
                                                              AV.int IntKind.i64 c.w, AV.int IntKind.i64 c.l,
                                                              AV.int IntKind.i64 c.r, AV.int IntKind.i64 c.i,
                                                              AV.int IntKind.i64 c.q, AV.int IntKind.i64 c.s]
                                                            (23 : Nat)) =
                                                        some
                                                          (Ob.row
                                                            [AV.int IntKind.i64 c.d, AV.int IntKind.i64 c.p,
                                                              AV.int IntKind.i64 c.w, AV.int IntKind.i64 c.l,
                                                              AV.int IntKind.i64 c.r, AV.int IntKind.i64 c.i,
                                                              AV.int IntKind.i64 c.q, AV.int IntKind.i64 c.s]
                                                            (23 : Nat))) ∧
                                          N
                                            { i := wrapF IntKind.i64 (z.i.add (1 : Int)),
                                              pts := wrapF IntKind.i64 (z.pts.sub (1 : Int)), tr := z.tr, hd := true,
                                              us := z.us, x := z.x : Z })
                                        (ifp (eqInt (x.tmod (5 : Int)) (2 : Int))
                                          ((True ∧
                                              some (AV.vs sl n cap true none (1 : Nat)) =
                                                  some (AV.vs sl n cap true none (1 : Nat)) ∧
                                                some (AV.ptr (0 : Nat) (0 : Nat)) = some (AV.ptr (0 : Nat) (0 : Nat)) ∧
                                                  some (AV.ptr (1 : Nat) (0 : Nat)) =
                                                      some (AV.ptr (1 : Nat) (0 : Nat)) ∧
                                                    some (AV.int IntKind.i64 (0 : Int)) =
                                                        some (AV.int IntKind.i64 (0 : Int)) ∧
                                                      some (AV.int IntKind.i64 lim) = some (AV.int IntKind.i64 lim) ∧
                                                        some
                                                            (Ob.row
                                                              [AV.int IntKind.i64 c.d, AV.int IntKind.i64 c.p,
                                                                AV.int IntKind.i64 c.w, AV.int IntKind.i64 c.l,
                                                                AV.int IntKind.i64 c.r, AV.int IntKind.i64 c.i,
                                                                AV.int IntKind.i64 c.q, AV.int IntKind.i64 c.s]
                                                              (23 : Nat)) =
                                                          some
                                                            (Ob.row
                                                              [AV.int IntKind.i64 c.d, AV.int IntKind.i64 c.p,
                                                                AV.int IntKind.i64 c.w, AV.int IntKind.i64 c.l,
                                                                AV.int IntKind.i64 c.r, AV.int IntKind.i64 c.i,
                                                                AV.int IntKind.i64 c.q, AV.int IntKind.i64 c.s]
                                                              (23 : Nat))) ∧
                                            N
                                              { i := wrapF IntKind.i64 (z.i.add (1 : Int)),
                                                pts := wrapF IntKind.i64 (z.pts.add (1 : Int)), tr := z.tr, hd := true,
                                                us := z.us, x := z.x : Z })
                                          ((True ∧
                                              some (AV.vs sl n cap true none (1 : Nat)) =
                                                  some (AV.vs sl n cap true none (1 : Nat)) ∧
                                                some (AV.ptr (0 : Nat) (0 : Nat)) = some (AV.ptr (0 : Nat) (0 : Nat)) ∧
                                                  some (AV.ptr (1 : Nat) (0 : Nat)) =
                                                      some (AV.ptr (1 : Nat) (0 : Nat)) ∧
                                                    some (AV.int IntKind.i64 (0 : Int)) =
                                                        some (AV.int IntKind.i64 (0 : Int)) ∧
                                                      some (AV.int IntKind.i64 lim) = some (AV.int IntKind.i64 lim) ∧
                                                        some
                                                            (Ob.row
                                                              [AV.int IntKind.i64 c.d, AV.int IntKind.i64 c.p,
                                                                AV.int IntKind.i64 c.w, AV.int IntKind.i64 c.l,
                                                                AV.int IntKind.i64 c.r, AV.int IntKind.i64 c.i,
                                                                AV.int IntKind.i64 c.q, AV.int IntKind.i64 c.s]
                                                              (23 : Nat)) =
                                                          some
                                                            (Ob.row
                                                              [AV.int IntKind.i64 c.d, AV.int IntKind.i64 c.p,
                                                                AV.int IntKind.i64 c.w, AV.int IntKind.i64 c.l,
                                                                AV.int IntKind.i64 c.r, AV.int IntKind.i64 c.i,
                                                                AV.int IntKind.i64 c.q, AV.int IntKind.i64 c.s]
                                                              (23 : Nat))) ∧
                                            N
                                              { i := wrapF IntKind.i64 (z.i.add (1 : Int)), pts := z.pts, tr := z.tr,
                                                hd := false, us := z.us,
                                                x := z.x : Z })))))
                          (ifp
                            (!eqInt
                                (hldE
                                  c
                                  z.x)
                                (0 : Int))
                            False
                            (ifp
                              (!eqInt
                                  (used
                                    {
                                      b :=
                                        (hldL
                                            c
                                            z.x).b,
                                      g :=
                                        (hldL
                                            c
                                            z.x).g,
                                      s :=
                                        (hldL
                                            c
                                            z.x).s : L })
                                  (wrapF IntKind.i64
                                    (z.us.add
                                      (swp
                                        c))))
                              False
                              (ifp
                                (!leInt
                                    (wrapF IntKind.i64
                                      (z.us.add
                                        (swp
                                          c)))
                                    lim)
                                False
                                (ifp
                                  (!eqInt
                                      (rst
                                        c
                                        {
                                          b :=
                                            (hldL
                                                c
                                                z.x).b,
                                          g :=
                                            (hldL
                                                c
                                                z.x).g,
                                          s :=
                                            (hldL
                                                c
                                                z.x).s : L })
                                      (wrapF IntKind.i64
                                        (lim.sub
                                          (wrapF IntKind.i64
                                            (z.us.add
                                              (swp
                                                c))))))
                                  False
                                  (ifp
                                    (!leInt
                                        (hldL
                                            c
                                            z.x).s
                                        (0 : Int))
                                    ((True ∧
                                        some (AV.vs sl n cap true none (1 : Nat)) =
                                            some (AV.vs sl n cap true none (1 : Nat)) ∧
                                          some (AV.ptr (0 : Nat) (0 : Nat)) = some (AV.ptr (0 : Nat) (0 : Nat)) ∧
                                            some (AV.ptr (1 : Nat) (0 : Nat)) = some (AV.ptr (1 : Nat) (0 : Nat)) ∧
                                              some (AV.int IntKind.i64 (0 : Int)) =
                                                  some (AV.int IntKind.i64 (0 : Int)) ∧
                                                some (AV.int IntKind.i64 lim) = some (AV.int IntKind.i64 lim) ∧
                                                  some
                                                      (Ob.row
                                                        [AV.int IntKind.i64 c.d, AV.int IntKind.i64 c.p,
                                                          AV.int IntKind.i64 c.w, AV.int IntKind.i64 c.l,
                                                          AV.int IntKind.i64 c.r, AV.int IntKind.i64 c.i,
                                                          AV.int IntKind.i64 c.q, AV.int IntKind.i64 c.s]
                                                        (23 : Nat)) =
                                                    some
                                                      (Ob.row
                                                        [AV.int IntKind.i64 c.d, AV.int IntKind.i64 c.p,
                                                          AV.int IntKind.i64 c.w, AV.int IntKind.i64 c.l,
                                                          AV.int IntKind.i64 c.r, AV.int IntKind.i64 c.i,
                                                          AV.int IntKind.i64 c.q, AV.int IntKind.i64 c.s]
                                                        (23 : Nat))) ∧
                                      N
                                        { i := wrapF IntKind.i64 (z.i.add (1 : Int)), pts := z.pts, tr := z.tr,
                                          hd := true,
                                          us :=
                                            wrapF IntKind.i64
                                              (z.us.add
                                                (swp
                                                  c)),
                                          x :=
                                            {
                                              b :=
                                                (hldL
                                                    c
                                                    z.x).b,
                                              g :=
                                                (hldL
                                                    c
                                                    z.x).g,
                                              s :=
                                                (hldL
                                                    c
                                                    z.x).s : L } :
                                          Z })
                                    False))))))))
                    (ifp z.tr
                      (ifp
                        (!eqInt
                            (bsdE c
                              z.x z.pts)
                            (0 : Int))
                        False
                        (ifp
                          (!leInt
                              (used
                                {
                                  b :=
                                    (bsdL
                                        c
                                        z.x z.pts true).b,
                                  g :=
                                    (bsdL
                                        c
                                        z.x z.pts true).g,
                                  s :=
                                    (bsdL
                                        c
                                        z.x z.pts true).s : L })
                              z.us)
                          False
                          (ifp
                            (!eqInt
                                (bsdL
                                    c
                                    z.x z.pts true).g
                                (0 : Int))
                            False
                            (ifp
                              (!eqInt
                                  (bsdL
                                      c
                                      z.x z.pts true).s
                                  z.x.s)
                              False
                              (ifp
                                (eqInt
                                  (bsdE
                                    c
                                    z.x z.pts)
                                  (7 : Int))
                                (ifp
                                  (leInt
                                    (wrapF IntKind.i64
                                      ((used
                                            {
                                              b :=
                                                (bsdL
                                                    c
                                                    z.x z.pts true).b,
                                              g :=
                                                (bsdL
                                                    c
                                                    z.x z.pts true).g,
                                              s :=
                                                (bsdL
                                                    c
                                                    z.x z.pts true).s : L }).add
                                        (0 : Int)))
                                    lim)
                                  False
                                  (idxOk z.i n ∧
                                    ∃ (x : Int),
                                      nth ((natOf z.i).mul (1 : Nat)) sl = some (AV.int IntKind.i64 x) ∧
                                        (5 : Int) ≠ (0 : Int) ∧
                                          ifp (eqInt (x.tmod (5 : Int)) (0 : Int))
                                            ((True ∧
                                                some (AV.vs sl n cap true none (1 : Nat)) =
                                                    some (AV.vs sl n cap true none (1 : Nat)) ∧
                                                  some (AV.ptr (0 : Nat) (0 : Nat)) =
                                                      some (AV.ptr (0 : Nat) (0 : Nat)) ∧
                                                    some (AV.ptr (1 : Nat) (0 : Nat)) =
                                                        some (AV.ptr (1 : Nat) (0 : Nat)) ∧
                                                      some (AV.int IntKind.i64 (0 : Int)) =
                                                          some (AV.int IntKind.i64 (0 : Int)) ∧
                                                        some (AV.int IntKind.i64 lim) = some (AV.int IntKind.i64 lim) ∧
                                                          some
                                                              (Ob.row
                                                                [AV.int IntKind.i64 c.d, AV.int IntKind.i64 c.p,
                                                                  AV.int IntKind.i64 c.w, AV.int IntKind.i64 c.l,
                                                                  AV.int IntKind.i64 c.r, AV.int IntKind.i64 c.i,
                                                                  AV.int IntKind.i64 c.q, AV.int IntKind.i64 c.s]
                                                                (23 : Nat)) =
                                                            some
                                                              (Ob.row
                                                                [AV.int IntKind.i64 c.d, AV.int IntKind.i64 c.p,
                                                                  AV.int IntKind.i64 c.w, AV.int IntKind.i64 c.l,
                                                                  AV.int IntKind.i64 c.r, AV.int IntKind.i64 c.i,
                                                                  AV.int IntKind.i64 c.q, AV.int IntKind.i64 c.s]
                                                                (23 : Nat))) ∧
                                              N
                                                { i := wrapF IntKind.i64 (z.i.add (1 : Int)),
                                                  pts := wrapF IntKind.i64 (z.pts.sub (1 : Int)), tr := z.tr,
                                                  hd := z.hd,
                                                  us :=
                                                    used
                                                      {
                                                        b :=
                                                          (bsdL
                                                              c
                                                              z.x z.pts true).b,
                                                        g :=
                                                          (bsdL
                                                              c
                                                              z.x z.pts true).g,
                                                        s :=
                                                          (bsdL
                                                              c
                                                              z.x z.pts true).s : L },
                                                  x := z.x : Z })
                                            (ifp (eqInt (x.tmod (5 : Int)) (1 : Int))
                                              ((True ∧
                                                  some (AV.vs sl n cap true none (1 : Nat)) =
                                                      some (AV.vs sl n cap true none (1 : Nat)) ∧
                                                    some (AV.ptr (0 : Nat) (0 : Nat)) =
                                                        some (AV.ptr (0 : Nat) (0 : Nat)) ∧
                                                      some (AV.ptr (1 : Nat) (0 : Nat)) =
                                                          some (AV.ptr (1 : Nat) (0 : Nat)) ∧
                                                        some (AV.int IntKind.i64 (0 : Int)) =
                                                            some (AV.int IntKind.i64 (0 : Int)) ∧
                                                          some (AV.int IntKind.i64 lim) =
                                                              some (AV.int IntKind.i64 lim) ∧
                                                            some
                                                                (Ob.row
                                                                  [AV.int IntKind.i64 c.d, AV.int IntKind.i64 c.p,
                                                                    AV.int IntKind.i64 c.w, AV.int IntKind.i64 c.l,
                                                                    AV.int IntKind.i64 c.r, AV.int IntKind.i64 c.i,
                                                                    AV.int IntKind.i64 c.q, AV.int IntKind.i64 c.s]
                                                                  (23 : Nat)) =
                                                              some
                                                                (Ob.row
                                                                  [AV.int IntKind.i64 c.d, AV.int IntKind.i64 c.p,
                                                                    AV.int IntKind.i64 c.w, AV.int IntKind.i64 c.l,
                                                                    AV.int IntKind.i64 c.r, AV.int IntKind.i64 c.i,
                                                                    AV.int IntKind.i64 c.q, AV.int IntKind.i64 c.s]
                                                                  (23 : Nat))) ∧
                                                N
                                                  { i := wrapF IntKind.i64 (z.i.add (1 : Int)),
                                                    pts := wrapF IntKind.i64 (z.pts.sub (1 : Int)), tr := z.tr,
                                                    hd := z.hd,
                                                    us :=
                                                      used
                                                        {
                                                          b :=
                                                            (bsdL
                                                                c
                                                                z.x z.pts
                                                                true).b,
                                                          g :=
                                                            (bsdL
                                                                c
                                                                z.x z.pts
                                                                true).g,
                                                          s :=
                                                            (bsdL
                                                                c
                                                                z.x z.pts
                                                                true).s : L },
                                                    x := z.x : Z })
                                              (ifp (eqInt (x.tmod (5 : Int)) (2 : Int))
                                                ((True ∧
                                                    some (AV.vs sl n cap true none (1 : Nat)) =
                                                        some (AV.vs sl n cap true none (1 : Nat)) ∧
                                                      some (AV.ptr (0 : Nat) (0 : Nat)) =
                                                          some (AV.ptr (0 : Nat) (0 : Nat)) ∧
                                                        some (AV.ptr (1 : Nat) (0 : Nat)) =
                                                            some (AV.ptr (1 : Nat) (0 : Nat)) ∧
                                                          some (AV.int IntKind.i64 (0 : Int)) =
                                                              some (AV.int IntKind.i64 (0 : Int)) ∧
                                                            some (AV.int IntKind.i64 lim) =
                                                                some (AV.int IntKind.i64 lim) ∧
                                                              some
                                                                  (Ob.row
                                                                    [AV.int IntKind.i64 c.d, AV.int IntKind.i64 c.p,
                                                                      AV.int IntKind.i64 c.w, AV.int IntKind.i64 c.l,
                                                                      AV.int IntKind.i64 c.r, AV.int IntKind.i64 c.i,
                                                                      AV.int IntKind.i64 c.q, AV.int IntKind.i64 c.s]
                                                                    (23 : Nat)) =
                                                                some
                                                                  (Ob.row
                                                                    [AV.int IntKind.i64 c.d, AV.int IntKind.i64 c.p,
                                                                      AV.int IntKind.i64 c.w, AV.int IntKind.i64 c.l,
                                                                      AV.int IntKind.i64 c.r, AV.int IntKind.i64 c.i,
                                                                      AV.int IntKind.i64 c.q, AV.int IntKind.i64 c.s]
                                                                    (23 : Nat))) ∧
                                                  N
                                                    { i := wrapF IntKind.i64 (z.i.add (1 : Int)),
                                                      pts := wrapF IntKind.i64 (z.pts.add (1 : Int)), tr := z.tr,
                                                      hd := z.hd,
                                                      us :=
                                                        used
                                                          {
                                                            b :=
                                                              (bsdL
                                                                  c
                                                                  z.x z.pts
                                                                  true).b,
                                                            g :=
                                                              (bsdL
                                                                  c
                                                                  z.x z.pts
                                                                  true).g,
                                                            s :=
                                                              (bsdL
                                                                  c
                                                                  z.x z.pts
                                                                  true).s : L },
                                                      x := z.x : Z })
                                                ((True ∧
                                                    some (AV.vs sl n cap true none (1 : Nat)) =
                                                        some (AV.vs sl n cap true none (1 : Nat)) ∧
                                                      some (AV.ptr (0 : Nat) (0 : Nat)) =
                                                          some (AV.ptr (0 : Nat) (0 : Nat)) ∧
                                                        some (AV.ptr (1 : Nat) (0 : Nat)) =
                                                            some (AV.ptr (1 : Nat) (0 : Nat)) ∧
                                                          some (AV.int IntKind.i64 (0 : Int)) =
                                                              some (AV.int IntKind.i64 (0 : Int)) ∧
                                                            some (AV.int IntKind.i64 lim) =
                                                                some (AV.int IntKind.i64 lim) ∧
                                                              some
                                                                  (Ob.row
                                                                    [AV.int IntKind.i64 c.d, AV.int IntKind.i64 c.p,
                                                                      AV.int IntKind.i64 c.w, AV.int IntKind.i64 c.l,
                                                                      AV.int IntKind.i64 c.r, AV.int IntKind.i64 c.i,
                                                                      AV.int IntKind.i64 c.q, AV.int IntKind.i64 c.s]
                                                                    (23 : Nat)) =
                                                                some
                                                                  (Ob.row
                                                                    [AV.int IntKind.i64 c.d, AV.int IntKind.i64 c.p,
                                                                      AV.int IntKind.i64 c.w, AV.int IntKind.i64 c.l,
                                                                      AV.int IntKind.i64 c.r, AV.int IntKind.i64 c.i,
                                                                      AV.int IntKind.i64 c.q, AV.int IntKind.i64 c.s]
                                                                    (23 : Nat))) ∧
                                                  N
                                                    { i := wrapF IntKind.i64 (z.i.add (1 : Int)), pts := z.pts,
                                                      tr := z.tr, hd := false,
                                                      us :=
                                                        used
                                                          {
                                                            b :=
                                                              (bsdL
                                                                  c
                                                                  z.x z.pts
                                                                  true).b,
                                                            g :=
                                                              (bsdL
                                                                  c
                                                                  z.x z.pts
                                                                  true).g,
                                                            s :=
                                                              (bsdL
                                                                  c
                                                                  z.x z.pts
                                                                  true).s : L },
                                                      x := z.x : Z })))))
                                (ifp
                                  (!eqInt
                                      (bsdE
                                        c
                                        z.x z.pts)
                                      (0 : Int))
                                  False
                                  (ifp
                                    (!eqInt
                                        (used
                                          {
                                            b :=
                                              (bsdL
                                                  c
                                                  z.x z.pts true).b,
                                            g :=
                                              (bsdL
                                                  c
                                                  z.x z.pts true).g,
                                            s :=
                                              (bsdL
                                                  c
                                                  z.x z.pts true).s : L })
                                        (wrapF IntKind.i64
                                          ((used
                                                {
                                                  b :=
                                                    (bsdL
                                                        c
                                                        z.x z.pts true).b,
                                                  g :=
                                                    (bsdL
                                                        c
                                                        z.x z.pts true).g,
                                                  s :=
                                                    (bsdL
                                                        c
                                                        z.x z.pts true).s : L }).add
                                            (0 : Int))))
                                    False
                                    (ifp
                                      (!leInt
                                          (wrapF IntKind.i64
                                            ((used
                                                  {
                                                    b :=
                                                      (bsdL
                                                          c
                                                          z.x z.pts true).b,
                                                    g :=
                                                      (bsdL
                                                          c
                                                          z.x z.pts true).g,
                                                    s :=
                                                      (bsdL
                                                          c
                                                          z.x z.pts true).s : L }).add
                                              (0 : Int)))
                                          lim)
                                      False
                                      (ifp
                                        (!eqInt
                                            (rst
                                              c
                                              {
                                                b :=
                                                  (bsdL
                                                      c
                                                      z.x z.pts true).b,
                                                g :=
                                                  (bsdL
                                                      c
                                                      z.x z.pts true).g,
                                                s :=
                                                  (bsdL
                                                      c
                                                      z.x z.pts true).s : L })
                                            (wrapF IntKind.i64
                                              (lim.sub
                                                (wrapF IntKind.i64
                                                  ((used
                                                        {
                                                          b :=
                                                            (bsdL
                                                                c
                                                                z.x z.pts
                                                                true).b,
                                                          g :=
                                                            (bsdL
                                                                c
                                                                z.x z.pts
                                                                true).g,
                                                          s :=
                                                            (bsdL
                                                                c
                                                                z.x z.pts
                                                                true).s : L }).add
                                                    (0 : Int))))))
                                        False
                                        (ifp
                                          (!leInt
                                              (bsdL
                                                  c
                                                  z.x z.pts true).s
                                              (0 : Int))
                                          (ifp z.hd
                                            ((True ∧
                                                some (AV.vs sl n cap true none (1 : Nat)) =
                                                    some (AV.vs sl n cap true none (1 : Nat)) ∧
                                                  some (AV.ptr (0 : Nat) (0 : Nat)) =
                                                      some (AV.ptr (0 : Nat) (0 : Nat)) ∧
                                                    some (AV.ptr (1 : Nat) (0 : Nat)) =
                                                        some (AV.ptr (1 : Nat) (0 : Nat)) ∧
                                                      some (AV.int IntKind.i64 (0 : Int)) =
                                                          some (AV.int IntKind.i64 (0 : Int)) ∧
                                                        some (AV.int IntKind.i64 lim) = some (AV.int IntKind.i64 lim) ∧
                                                          some
                                                              (Ob.row
                                                                [AV.int IntKind.i64 c.d, AV.int IntKind.i64 c.p,
                                                                  AV.int IntKind.i64 c.w, AV.int IntKind.i64 c.l,
                                                                  AV.int IntKind.i64 c.r, AV.int IntKind.i64 c.i,
                                                                  AV.int IntKind.i64 c.q, AV.int IntKind.i64 c.s]
                                                                (23 : Nat)) =
                                                            some
                                                              (Ob.row
                                                                [AV.int IntKind.i64 c.d, AV.int IntKind.i64 c.p,
                                                                  AV.int IntKind.i64 c.w, AV.int IntKind.i64 c.l,
                                                                  AV.int IntKind.i64 c.r, AV.int IntKind.i64 c.i,
                                                                  AV.int IntKind.i64 c.q, AV.int IntKind.i64 c.s]
                                                                (23 : Nat))) ∧
                                              N
                                                { i := wrapF IntKind.i64 (z.i.add (1 : Int)), pts := z.pts, tr := z.tr,
                                                  hd := z.hd,
                                                  us :=
                                                    wrapF IntKind.i64
                                                      ((used
                                                            {
                                                              b :=
                                                                (bsdL
                                                                    c
                                                                    z.x z.pts
                                                                    true).b,
                                                              g :=
                                                                (bsdL
                                                                    c
                                                                    z.x z.pts
                                                                    true).g,
                                                              s :=
                                                                (bsdL
                                                                    c
                                                                    z.x z.pts
                                                                    true).s : L }).add
                                                        (0 : Int)),
                                                  x :=
                                                    {
                                                      b :=
                                                        (bsdL
                                                            c
                                                            z.x z.pts true).b,
                                                      g :=
                                                        (bsdL
                                                            c
                                                            z.x z.pts true).g,
                                                      s :=
                                                        (bsdL
                                                            c
                                                            z.x z.pts true).s : L } :
                                                  Z })
                                            False)
                                          (ifp z.hd False
                                            ((True ∧
                                                some (AV.vs sl n cap true none (1 : Nat)) =
                                                    some (AV.vs sl n cap true none (1 : Nat)) ∧
                                                  some (AV.ptr (0 : Nat) (0 : Nat)) =
                                                      some (AV.ptr (0 : Nat) (0 : Nat)) ∧
                                                    some (AV.ptr (1 : Nat) (0 : Nat)) =
                                                        some (AV.ptr (1 : Nat) (0 : Nat)) ∧
                                                      some (AV.int IntKind.i64 (0 : Int)) =
                                                          some (AV.int IntKind.i64 (0 : Int)) ∧
                                                        some (AV.int IntKind.i64 lim) = some (AV.int IntKind.i64 lim) ∧
                                                          some
                                                              (Ob.row
                                                                [AV.int IntKind.i64 c.d, AV.int IntKind.i64 c.p,
                                                                  AV.int IntKind.i64 c.w, AV.int IntKind.i64 c.l,
                                                                  AV.int IntKind.i64 c.r, AV.int IntKind.i64 c.i,
                                                                  AV.int IntKind.i64 c.q, AV.int IntKind.i64 c.s]
                                                                (23 : Nat)) =
                                                            some
                                                              (Ob.row
                                                                [AV.int IntKind.i64 c.d, AV.int IntKind.i64 c.p,
                                                                  AV.int IntKind.i64 c.w, AV.int IntKind.i64 c.l,
                                                                  AV.int IntKind.i64 c.r, AV.int IntKind.i64 c.i,
                                                                  AV.int IntKind.i64 c.q, AV.int IntKind.i64 c.s]
                                                                (23 : Nat))) ∧
                                              N
                                                { i := wrapF IntKind.i64 (z.i.add (1 : Int)), pts := z.pts, tr := z.tr,
                                                  hd := z.hd,
                                                  us :=
                                                    wrapF IntKind.i64
                                                      ((used
                                                            {
                                                              b :=
                                                                (bsdL
                                                                    c
                                                                    z.x z.pts
                                                                    true).b,
                                                              g :=
                                                                (bsdL
                                                                    c
                                                                    z.x z.pts
                                                                    true).g,
                                                              s :=
                                                                (bsdL
                                                                    c
                                                                    z.x z.pts
                                                                    true).s : L }).add
                                                        (0 : Int)),
                                                  x :=
                                                    {
                                                      b :=
                                                        (bsdL
                                                            c
                                                            z.x z.pts true).b,
                                                      g :=
                                                        (bsdL
                                                            c
                                                            z.x z.pts true).g,
                                                      s :=
                                                        (bsdL
                                                            c
                                                            z.x z.pts true).s : L } :
                                                  Z }))))))))))))
                      (ifp
                        (!eqInt
                            (bsdE c
                              z.x z.pts)
                            (0 : Int))
                        False
                        (ifp
                          (!leInt
                              (used
                                {
                                  b :=
                                    (bsdL
                                        c
                                        z.x z.pts false).b,
                                  g :=
                                    (bsdL
                                        c
                                        z.x z.pts false).g,
                                  s :=
                                    (bsdL
                                        c
                                        z.x z.pts false).s : L })
                              z.us)
                          False
                          (ifp
                            (!eqInt
                                (bsdL
                                    c
                                    z.x z.pts false).g
                                (0 : Int))
                            False
                            (ifp
                              (!eqInt
                                  (bsdL
                                      c
                                      z.x z.pts false).s
                                  z.x.s)
                              False
                              (ifp
                                (eqInt
                                  (bsdE
                                    c
                                    z.x z.pts)
                                  (7 : Int))
                                (ifp
                                  (leInt
                                    (wrapF IntKind.i64
                                      ((used
                                            {
                                              b :=
                                                (bsdL
                                                    c
                                                    z.x z.pts false).b,
                                              g :=
                                                (bsdL
                                                    c
                                                    z.x z.pts false).g,
                                              s :=
                                                (bsdL
                                                    c
                                                    z.x z.pts false).s : L }).add
                                        (0 : Int)))
                                    lim)
                                  False
                                  (idxOk z.i n ∧
                                    ∃ (x : Int),
                                      nth ((natOf z.i).mul (1 : Nat)) sl = some (AV.int IntKind.i64 x) ∧
                                        (5 : Int) ≠ (0 : Int) ∧
                                          ifp (eqInt (x.tmod (5 : Int)) (0 : Int))
                                            ((True ∧
                                                some (AV.vs sl n cap true none (1 : Nat)) =
                                                    some (AV.vs sl n cap true none (1 : Nat)) ∧
                                                  some (AV.ptr (0 : Nat) (0 : Nat)) =
                                                      some (AV.ptr (0 : Nat) (0 : Nat)) ∧
                                                    some (AV.ptr (1 : Nat) (0 : Nat)) =
                                                        some (AV.ptr (1 : Nat) (0 : Nat)) ∧
                                                      some (AV.int IntKind.i64 (0 : Int)) =
                                                          some (AV.int IntKind.i64 (0 : Int)) ∧
                                                        some (AV.int IntKind.i64 lim) = some (AV.int IntKind.i64 lim) ∧
                                                          some
                                                              (Ob.row
                                                                [AV.int IntKind.i64 c.d, AV.int IntKind.i64 c.p,
                                                                  AV.int IntKind.i64 c.w, AV.int IntKind.i64 c.l,
                                                                  AV.int IntKind.i64 c.r, AV.int IntKind.i64 c.i,
                                                                  AV.int IntKind.i64 c.q, AV.int IntKind.i64 c.s]
                                                                (23 : Nat)) =
                                                            some
                                                              (Ob.row
                                                                [AV.int IntKind.i64 c.d, AV.int IntKind.i64 c.p,
                                                                  AV.int IntKind.i64 c.w, AV.int IntKind.i64 c.l,
                                                                  AV.int IntKind.i64 c.r, AV.int IntKind.i64 c.i,
                                                                  AV.int IntKind.i64 c.q, AV.int IntKind.i64 c.s]
                                                                (23 : Nat))) ∧
                                              N
                                                { i := wrapF IntKind.i64 (z.i.add (1 : Int)),
                                                  pts := wrapF IntKind.i64 (z.pts.sub (1 : Int)), tr := z.tr,
                                                  hd := z.hd,
                                                  us :=
                                                    used
                                                      {
                                                        b :=
                                                          (bsdL
                                                              c
                                                              z.x z.pts false).b,
                                                        g :=
                                                          (bsdL
                                                              c
                                                              z.x z.pts false).g,
                                                        s :=
                                                          (bsdL
                                                              c
                                                              z.x z.pts
                                                              false).s : L },
                                                  x := z.x : Z })
                                            (ifp (eqInt (x.tmod (5 : Int)) (1 : Int))
                                              ((True ∧
                                                  some (AV.vs sl n cap true none (1 : Nat)) =
                                                      some (AV.vs sl n cap true none (1 : Nat)) ∧
                                                    some (AV.ptr (0 : Nat) (0 : Nat)) =
                                                        some (AV.ptr (0 : Nat) (0 : Nat)) ∧
                                                      some (AV.ptr (1 : Nat) (0 : Nat)) =
                                                          some (AV.ptr (1 : Nat) (0 : Nat)) ∧
                                                        some (AV.int IntKind.i64 (0 : Int)) =
                                                            some (AV.int IntKind.i64 (0 : Int)) ∧
                                                          some (AV.int IntKind.i64 lim) =
                                                              some (AV.int IntKind.i64 lim) ∧
                                                            some
                                                                (Ob.row
                                                                  [AV.int IntKind.i64 c.d, AV.int IntKind.i64 c.p,
                                                                    AV.int IntKind.i64 c.w, AV.int IntKind.i64 c.l,
                                                                    AV.int IntKind.i64 c.r, AV.int IntKind.i64 c.i,
                                                                    AV.int IntKind.i64 c.q, AV.int IntKind.i64 c.s]
                                                                  (23 : Nat)) =
                                                              some
                                                                (Ob.row
                                                                  [AV.int IntKind.i64 c.d, AV.int IntKind.i64 c.p,
                                                                    AV.int IntKind.i64 c.w, AV.int IntKind.i64 c.l,
                                                                    AV.int IntKind.i64 c.r, AV.int IntKind.i64 c.i,
                                                                    AV.int IntKind.i64 c.q, AV.int IntKind.i64 c.s]
                                                                  (23 : Nat))) ∧
                                                N
                                                  { i := wrapF IntKind.i64 (z.i.add (1 : Int)),
                                                    pts := wrapF IntKind.i64 (z.pts.sub (1 : Int)), tr := z.tr,
                                                    hd := z.hd,
                                                    us :=
                                                      used
                                                        {
                                                          b :=
                                                            (bsdL
                                                                c
                                                                z.x z.pts
                                                                false).b,
                                                          g :=
                                                            (bsdL
                                                                c
                                                                z.x z.pts
                                                                false).g,
                                                          s :=
                                                            (bsdL
                                                                c
                                                                z.x z.pts
                                                                false).s : L },
                                                    x := z.x : Z })
                                              (ifp (eqInt (x.tmod (5 : Int)) (2 : Int))
                                                ((True ∧
                                                    some (AV.vs sl n cap true none (1 : Nat)) =
                                                        some (AV.vs sl n cap true none (1 : Nat)) ∧
                                                      some (AV.ptr (0 : Nat) (0 : Nat)) =
                                                          some (AV.ptr (0 : Nat) (0 : Nat)) ∧
                                                        some (AV.ptr (1 : Nat) (0 : Nat)) =
                                                            some (AV.ptr (1 : Nat) (0 : Nat)) ∧
                                                          some (AV.int IntKind.i64 (0 : Int)) =
                                                              some (AV.int IntKind.i64 (0 : Int)) ∧
                                                            some (AV.int IntKind.i64 lim) =
                                                                some (AV.int IntKind.i64 lim) ∧
                                                              some
                                                                  (Ob.row
                                                                    [AV.int IntKind.i64 c.d, AV.int IntKind.i64 c.p,
                                                                      AV.int IntKind.i64 c.w, AV.int IntKind.i64 c.l,
                                                                      AV.int IntKind.i64 c.r, AV.int IntKind.i64 c.i,
                                                                      AV.int IntKind.i64 c.q, AV.int IntKind.i64 c.s]
                                                                    (23 : Nat)) =
                                                                some
                                                                  (Ob.row
                                                                    [AV.int IntKind.i64 c.d, AV.int IntKind.i64 c.p,
                                                                      AV.int IntKind.i64 c.w, AV.int IntKind.i64 c.l,
                                                                      AV.int IntKind.i64 c.r, AV.int IntKind.i64 c.i,
                                                                      AV.int IntKind.i64 c.q, AV.int IntKind.i64 c.s]
                                                                    (23 : Nat))) ∧
                                                  N
                                                    { i := wrapF IntKind.i64 (z.i.add (1 : Int)),
                                                      pts := wrapF IntKind.i64 (z.pts.add (1 : Int)), tr := z.tr,
                                                      hd := z.hd,
                                                      us :=
                                                        used
                                                          {
                                                            b :=
                                                              (bsdL
                                                                  c
                                                                  z.x z.pts
                                                                  false).b,
                                                            g :=
                                                              (bsdL
                                                                  c
                                                                  z.x z.pts
                                                                  false).g,
                                                            s :=
                                                              (bsdL
                                                                  c
                                                                  z.x z.pts
                                                                  false).s : L },
                                                      x := z.x : Z })
                                                ((True ∧
                                                    some (AV.vs sl n cap true none (1 : Nat)) =
                                                        some (AV.vs sl n cap true none (1 : Nat)) ∧
                                                      some (AV.ptr (0 : Nat) (0 : Nat)) =
                                                          some (AV.ptr (0 : Nat) (0 : Nat)) ∧
                                                        some (AV.ptr (1 : Nat) (0 : Nat)) =
                                                            some (AV.ptr (1 : Nat) (0 : Nat)) ∧
                                                          some (AV.int IntKind.i64 (0 : Int)) =
                                                              some (AV.int IntKind.i64 (0 : Int)) ∧
                                                            some (AV.int IntKind.i64 lim) =
                                                                some (AV.int IntKind.i64 lim) ∧
                                                              some
                                                                  (Ob.row
                                                                    [AV.int IntKind.i64 c.d, AV.int IntKind.i64 c.p,
                                                                      AV.int IntKind.i64 c.w, AV.int IntKind.i64 c.l,
                                                                      AV.int IntKind.i64 c.r, AV.int IntKind.i64 c.i,
                                                                      AV.int IntKind.i64 c.q, AV.int IntKind.i64 c.s]
                                                                    (23 : Nat)) =
                                                                some
                                                                  (Ob.row
                                                                    [AV.int IntKind.i64 c.d, AV.int IntKind.i64 c.p,
                                                                      AV.int IntKind.i64 c.w, AV.int IntKind.i64 c.l,
                                                                      AV.int IntKind.i64 c.r, AV.int IntKind.i64 c.i,
                                                                      AV.int IntKind.i64 c.q, AV.int IntKind.i64 c.s]
                                                                    (23 : Nat))) ∧
                                                  N
                                                    { i := wrapF IntKind.i64 (z.i.add (1 : Int)), pts := z.pts,
                                                      tr := z.tr, hd := false,
                                                      us :=
                                                        used
                                                          {
                                                            b :=
                                                              (bsdL
                                                                  c
                                                                  z.x z.pts
                                                                  false).b,
                                                            g :=
                                                              (bsdL
                                                                  c
                                                                  z.x z.pts
                                                                  false).g,
                                                            s :=
                                                              (bsdL
                                                                  c
                                                                  z.x z.pts
                                                                  false).s : L },
                                                      x := z.x : Z })))))
                                (ifp
                                  (!eqInt
                                      (bsdE
                                        c
                                        z.x z.pts)
                                      (0 : Int))
                                  False
                                  (ifp
                                    (!eqInt
                                        (used
                                          {
                                            b :=
                                              (bsdL
                                                  c
                                                  z.x z.pts false).b,
                                            g :=
                                              (bsdL
                                                  c
                                                  z.x z.pts false).g,
                                            s :=
                                              (bsdL
                                                  c
                                                  z.x z.pts false).s : L })
                                        (wrapF IntKind.i64
                                          ((used
                                                {
                                                  b :=
                                                    (bsdL
                                                        c
                                                        z.x z.pts false).b,
                                                  g :=
                                                    (bsdL
                                                        c
                                                        z.x z.pts false).g,
                                                  s :=
                                                    (bsdL
                                                        c
                                                        z.x z.pts false).s : L }).add
                                            (0 : Int))))
                                    False
                                    (ifp
                                      (!leInt
                                          (wrapF IntKind.i64
                                            ((used
                                                  {
                                                    b :=
                                                      (bsdL
                                                          c
                                                          z.x z.pts false).b,
                                                    g :=
                                                      (bsdL
                                                          c
                                                          z.x z.pts false).g,
                                                    s :=
                                                      (bsdL
                                                          c
                                                          z.x z.pts false).s : L }).add
                                              (0 : Int)))
                                          lim)
                                      False
                                      (ifp
                                        (!eqInt
                                            (rst
                                              c
                                              {
                                                b :=
                                                  (bsdL
                                                      c
                                                      z.x z.pts false).b,
                                                g :=
                                                  (bsdL
                                                      c
                                                      z.x z.pts false).g,
                                                s :=
                                                  (bsdL
                                                      c
                                                      z.x z.pts false).s : L })
                                            (wrapF IntKind.i64
                                              (lim.sub
                                                (wrapF IntKind.i64
                                                  ((used
                                                        {
                                                          b :=
                                                            (bsdL
                                                                c
                                                                z.x z.pts
                                                                false).b,
                                                          g :=
                                                            (bsdL
                                                                c
                                                                z.x z.pts
                                                                false).g,
                                                          s :=
                                                            (bsdL
                                                                c
                                                                z.x z.pts
                                                                false).s : L }).add
                                                    (0 : Int))))))
                                        False
                                        (ifp
                                          (!leInt
                                              (bsdL
                                                  c
                                                  z.x z.pts false).s
                                              (0 : Int))
                                          (ifp z.hd
                                            ((True ∧
                                                some (AV.vs sl n cap true none (1 : Nat)) =
                                                    some (AV.vs sl n cap true none (1 : Nat)) ∧
                                                  some (AV.ptr (0 : Nat) (0 : Nat)) =
                                                      some (AV.ptr (0 : Nat) (0 : Nat)) ∧
                                                    some (AV.ptr (1 : Nat) (0 : Nat)) =
                                                        some (AV.ptr (1 : Nat) (0 : Nat)) ∧
                                                      some (AV.int IntKind.i64 (0 : Int)) =
                                                          some (AV.int IntKind.i64 (0 : Int)) ∧
                                                        some (AV.int IntKind.i64 lim) = some (AV.int IntKind.i64 lim) ∧
                                                          some
                                                              (Ob.row
                                                                [AV.int IntKind.i64 c.d, AV.int IntKind.i64 c.p,
                                                                  AV.int IntKind.i64 c.w, AV.int IntKind.i64 c.l,
                                                                  AV.int IntKind.i64 c.r, AV.int IntKind.i64 c.i,
                                                                  AV.int IntKind.i64 c.q, AV.int IntKind.i64 c.s]
                                                                (23 : Nat)) =
                                                            some
                                                              (Ob.row
                                                                [AV.int IntKind.i64 c.d, AV.int IntKind.i64 c.p,
                                                                  AV.int IntKind.i64 c.w, AV.int IntKind.i64 c.l,
                                                                  AV.int IntKind.i64 c.r, AV.int IntKind.i64 c.i,
                                                                  AV.int IntKind.i64 c.q, AV.int IntKind.i64 c.s]
                                                                (23 : Nat))) ∧
                                              N
                                                { i := wrapF IntKind.i64 (z.i.add (1 : Int)), pts := z.pts, tr := z.tr,
                                                  hd := z.hd,
                                                  us :=
                                                    wrapF IntKind.i64
                                                      ((used
                                                            {
                                                              b :=
                                                                (bsdL
                                                                    c
                                                                    z.x z.pts
                                                                    false).b,
                                                              g :=
                                                                (bsdL
                                                                    c
                                                                    z.x z.pts
                                                                    false).g,
                                                              s :=
                                                                (bsdL
                                                                    c
                                                                    z.x z.pts
                                                                    false).s : L }).add
                                                        (0 : Int)),
                                                  x :=
                                                    {
                                                      b :=
                                                        (bsdL
                                                            c
                                                            z.x z.pts false).b,
                                                      g :=
                                                        (bsdL
                                                            c
                                                            z.x z.pts false).g,
                                                      s :=
                                                        (bsdL
                                                            c
                                                            z.x z.pts false).s : L } :
                                                  Z })
                                            False)
                                          (ifp z.hd False
                                            ((True ∧
                                                some (AV.vs sl n cap true none (1 : Nat)) =
                                                    some (AV.vs sl n cap true none (1 : Nat)) ∧
                                                  some (AV.ptr (0 : Nat) (0 : Nat)) =
                                                      some (AV.ptr (0 : Nat) (0 : Nat)) ∧
                                                    some (AV.ptr (1 : Nat) (0 : Nat)) =
                                                        some (AV.ptr (1 : Nat) (0 : Nat)) ∧
                                                      some (AV.int IntKind.i64 (0 : Int)) =
                                                          some (AV.int IntKind.i64 (0 : Int)) ∧
                                                        some (AV.int IntKind.i64 lim) = some (AV.int IntKind.i64 lim) ∧
                                                          some
                                                              (Ob.row
                                                                [AV.int IntKind.i64 c.d, AV.int IntKind.i64 c.p,
                                                                  AV.int IntKind.i64 c.w, AV.int IntKind.i64 c.l,
                                                                  AV.int IntKind.i64 c.r, AV.int IntKind.i64 c.i,
                                                                  AV.int IntKind.i64 c.q, AV.int IntKind.i64 c.s]
                                                                (23 : Nat)) =
                                                            some
                                                              (Ob.row
                                                                [AV.int IntKind.i64 c.d, AV.int IntKind.i64 c.p,
                                                                  AV.int IntKind.i64 c.w, AV.int IntKind.i64 c.l,
                                                                  AV.int IntKind.i64 c.r, AV.int IntKind.i64 c.i,
                                                                  AV.int IntKind.i64 c.q, AV.int IntKind.i64 c.s]
                                                                (23 : Nat))) ∧
                                              N
                                                { i := wrapF IntKind.i64 (z.i.add (1 : Int)), pts := z.pts, tr := z.tr,
                                                  hd := z.hd,
                                                  us :=
                                                    wrapF IntKind.i64
                                                      ((used
                                                            {
                                                              b :=
                                                                (bsdL
                                                                    c
                                                                    z.x z.pts
                                                                    false).b,
                                                              g :=
                                                                (bsdL
                                                                    c
                                                                    z.x z.pts
                                                                    false).g,
                                                              s :=
                                                                (bsdL
                                                                    c
                                                                    z.x z.pts
                                                                    false).s : L }).add
                                                        (0 : Int)),
                                                  x :=
                                                    {
                                                      b :=
                                                        (bsdL
                                                            c
                                                            z.x z.pts false).b,
                                                      g :=
                                                        (bsdL
                                                            c
                                                            z.x z.pts false).g,
                                                      s :=
                                                        (bsdL
                                                            c
                                                            z.x z.pts false).s : L } :
                                                  Z })))))))))))))))))
    ((True ∧ some (AV.int IntKind.i64 (0 : Int)) = some (AV.int IntKind.i64 (0 : Int))) ∧ E (0 : Nat))) := by kernel_rfl

theorem lgdL_no {c : C} {l : L} {n : Int} (h : ¬(may c l n = 0)) : lgdL c l n = l0 := by unfold lgdL; rw [if_neg h]
theorem lgdL_yes {c : C} {l : L} {n : Int} (h : may c l n = 0) : lgdL c l n = ⟨l.b, l.g + n, l.s⟩ := by unfold lgdL; rw [if_pos h]
structure GoInv (c : C) (n : Nat) (lim : Int) (z : Z) : Prop where
  i0 : 0 ≤ z.i
  i1 : z.i ≤ n
  p0 : 0 ≤ z.pts
  p1 : z.pts ≤ c.r
  lk : lok z.x = true
  u : z.us = z.x.b + z.x.g + z.x.s
  ul : z.us ≤ lim
  hs : z.x.s = if z.hd = true then swp c else 0
  bs : bsz c z.pts (if z.tr = true then isz c else 0) ≤ z.x.b + z.x.g
theorem bsz_step {c : C} (h : bnd c = true) {a : Int} (h1 : 0 ≤ a) (h2 : a + 1 ≤ c.r) (t : Bool) : bsz c (a + 1) (if t = true then isz c else 0) = bsz c a (if t = true then isz c else 0) + (16 + 2 * c.d) := by
  have e2 : (a + 1) * (16 + 2 * c.d) = a * (16 + 2 * c.d) + (16 + 2 * c.d) := by rw [Int.add_mul, Int.one_mul]
  cases t with
  | true =>
    rw [if_pos rfl, bsz_yes ⟨h, by omega, by omega, .inr rfl⟩, bsz_yes ⟨h, by omega, by omega, .inr rfl⟩, e2]; omega
  | false =>
    rw [if_neg (by simp), bsz_yes ⟨h, by omega, by omega, .inl rfl⟩, bsz_yes ⟨h, by omega, by omega, .inl rfl⟩, e2]; omega
theorem bsz_tr {c : C} (h : bnd c = true) {a : Int} (h1 : 0 ≤ a) (h2 : a ≤ c.r) : bsz c a (isz c) = bsz c a 0 + (9 + isz c) := by
  have hi := (isz_le c).2.2 h
  rw [bsz_yes ⟨h, by omega, by omega, .inr rfl⟩, bsz_yes ⟨h, by omega, by omega, .inl rfl⟩, if_pos (by omega), if_neg (by omega)]; omega
theorem lok_of {b g s : Int} (h : 0 ≤ b ∧ 0 ≤ g ∧ 0 ≤ s ∧ b + g + s ≤ 1099511627776) : lok ⟨b, g, s⟩ = true :=
  lok_iff.2 ⟨h.1, by show b ≤ _; omega, h.2.1, by show g ≤ _; omega, h.2.2.1, by show s ≤ _; omega⟩
theorem goStep (c : C) (sl : List AV) (n cap : Nat) (lim : Int) (z : Z) (hg : good c = true) (hl : lim = c.s - rsv c) (hn : n ≤ 200) (hsl : ∀ i : Nat, i < n → ∃ x : Int, nth i sl = some (AV.int .i64 x)) (hi : GoInv c n lim z) :
    (runW Try.prog (KV ftA) 200).code none 5 194 (loopBody Try.prog 5 10) (goT (.vs sl n cap true none 1) lim z) [] (goSt c z) (goPost c (.vs sl n cap true none 1) lim (fun z' => GoInv c n lim z' ∧ z'.i = z.i + 1) (fun i => i = 0)) := by
  refine (goBody c sl n cap lim z _ _).mpr ?_
  simp only [ifp_ne, ifp_eq, ifp_le, ifp_nle, and_self, true_and]
  by_cases h : Int.ofNat n ≤ z.i
  · rw [if_pos h]; trivial
  rw [if_neg h]
  have h' : z.i < n := Int.not_le.1 h
  have hnat : (natOf z.i : Int) = z.i := (natOf_cast hi.i0).symm
  obtain ⟨x, hx⟩ := hsl (natOf z.i) (by omega)
  have ex : nth ((natOf z.i).mul 1) sl = some (AV.int .i64 x) := by rw [show (natOf z.i).mul 1 = natOf z.i from Nat.mul_one _]; exact hx
  refine ⟨⟨hi.i0, h'⟩, x, ex, by decide, ?_⟩
  have ed : ∀ y : Int, nth ((natOf z.i).mul 1) sl = some (AV.int .i64 y) ↔ y = x := by
    intro y; rw [ex]; simp [eq_comm]
  simp only [ed, exists_eq_left]
  generalize x.tmod 5 = k
  clear ed ex hx
  obtain ⟨i, pts, tr, hd, us, ⟨b, g, s⟩⟩ := z
  obtain ⟨i0, i1, p0, p1, lk, u, ul, hs, bs⟩ := hi
  dsimp only at i0 i1 p0 p1 lk u ul hs bs h' ⊢
  have hb := (good_iff.1 hg).1
  have gf := good_facts hg
  have bf := bnd_iff.1 hb
  have lf := lok_iff.1 lk
  dsimp only at lf
  have rf := rsv_le c
  have sf := isz_le c
  have sf2 := (sf.2.2 hb).1
  have eins : ins c = 25 + 2 * c.d := by unfold ins; rw [if_pos hg]
  have edel : del c = 25 := by unfold del; rw [if_pos hg]
  have eswp : swp c = 17 + isz c := by unfold swp; rw [if_pos hg]
  have ei : wrapF .i64 (Int.add i 1) = i + 1 := wadd (by omega) (by omega)
  have idx : idxOk i n := ⟨i0, h'⟩
  have h5 : (5 : Int) ≠ 0 := by decide
  have hleft : ∀ b g s : Int, left c ⟨b, g, s⟩ = lim - (b + g + s) := fun b g s => by subst hl; rfl
  have hmay : ∀ t : Int, 0 ≤ t → t ≤ 1099511627776 → may c ⟨b, g, s⟩ t = if t > lim - us then 7 else 0 := fun t t1 t2 => by
    rw [may_yes ⟨hg, lk, t1, t2⟩, hleft, u]
  have hrst : ∀ b g s : Int, lok ⟨b, g, s⟩ = true → b + g + s ≤ lim → rst c ⟨b, g, s⟩ = lim - (b + g + s) := fun b g s h1 h2 => by
    rw [rst_yes ⟨hg, h1⟩, hleft, if_neg (by omega)]
  have elim : ∀ t : Int, 0 ≤ t → t ≤ lim → wrapF .i64 (Int.sub lim t) = lim - t := fun t t1 t2 => wsub (by omega) (by omega)
  have eus : ∀ t : Int, 0 ≤ t → t ≤ 1099511627776 → wrapF .i64 (Int.add us t) = us + t := fun t t1 t2 => wadd (by omega) (by omega)
  -- what is logged
  have logged : ∀ (t pts' : Int) (G : Int → L → Prop), 0 ≤ t → t ≤ 1099511627776 → t ≤ lim - us → (∀ us' x', us' = us + t → x' = (⟨b, g + t, s⟩ : L) → lok x' = true → G us' x') →
      (if used (lgdL c ⟨b, g, s⟩ t) = wrapF .i64 (Int.add us t) then if wrapF .i64 (Int.add us t) ≤ lim then if rst c (lgdL c ⟨b, g, s⟩ t) = wrapF .i64 (Int.sub lim (wrapF .i64 (Int.add us t))) then
        if (lgdL c ⟨b, g, s⟩ t).s ≤ 0 then ifp hd False (G (wrapF .i64 (Int.add us t)) (lgdL c ⟨b, g, s⟩ t)) else ifp hd (G (wrapF .i64 (Int.add us t)) (lgdL c ⟨b, g, s⟩ t)) False else False else False else False) := by
    intro t pts' G t1 t2 t3 hG
    have m0 : may c ⟨b, g, s⟩ t = 0 := by rw [hmay t t1 t2, if_neg (by omega)]
    have lk' : lok ⟨b, g + t, s⟩ = true := lok_of (by omega)
    rw [lgdL_yes m0, eus t t1 t2, elim _ (by omega) (by omega)]
    dsimp only
    rw [if_pos (by rw [used_yes lk']; show b + (g + t) + s = _; omega), if_pos (by omega), if_pos (by rw [hrst _ _ _ lk' (by omega)]; omega)]
    have hG' := hG (us + t) _ rfl rfl lk'
    cases hd with
    | true =>
      rw [if_pos rfl] at hs
      rw [if_neg (by omega)]; exact hG'
    | false =>
      rw [if_neg (by simp)] at hs
      rw [if_pos (by omega)]; exact hG'
  have stay : ∀ pts' : Int, pts' = pts → GoInv c n lim ⟨i + 1, pts', tr, hd, us, ⟨b, g, s⟩⟩ ∧ i + 1 = i + 1 := fun pts' e => by
    subst e; exact ⟨⟨by show 0 ≤ i + 1; omega, by show i + 1 ≤ (n : Int); omega, p0, p1, lk, u, ul, hs, bs⟩, rfl⟩
  rw [ei]
  by_cases k01 : k = 0 ∨ k = 1
  · -- an insert
    have body : ∀ (A : Prop), (A = if pts = c.r then GoInv c n lim ⟨i + 1, pts, tr, hd, us, ⟨b, g, s⟩⟩ ∧ i + 1 = i + 1 else True) → True := fun _ _ => trivial
    have ep : pts ≠ c.r → wrapF .i64 (Int.add pts 1) = pts + 1 := fun _ => wadd (by omega) (by omega)
    have ep' : wrapF .i64 (Int.sub (pts + 1) 1) = pts := by rw [wsub (by omega) (by omega)]; omega
    have done : pts ≠ c.r → ∀ us' x', us' = us + ins c → x' = (⟨b, g + ins c, s⟩ : L) → lok x' = true → ins c ≤ lim - us → GoInv c n lim ⟨i + 1, pts + 1, tr, hd, us', x'⟩ ∧ i + 1 = i + 1 := by
      intro hp us' x' e1 e2 e3 e4
      subst e1; subst e2
      refine ⟨⟨by show 0 ≤ i + 1; omega, by show i + 1 ≤ (n : Int); omega, by show 0 ≤ pts + 1; omega, by show pts + 1 ≤ c.r; omega, e3, by show us + ins c = b + (g + ins c) + s; omega, by show us + ins c ≤ lim; omega, hs, ?_⟩, rfl⟩
      show bsz c (pts + 1) (if tr = true then isz c else 0) ≤ b + (g + ins c)
      rw [bsz_step hb p0 (by omega)]; omega
    by_cases k0 : k = 0
    · rw [if_pos k0]
      by_cases hp : pts = c.r
      · rw [if_pos hp]; exact stay _ rfl
      · rw [if_neg hp]
        by_cases hm : ins c > lim - us
        · rw [if_pos (by rw [hmay _ (by omega) (by omega), if_pos hm]), eus _ (by omega) (by omega), if_neg (by omega)]
          refine ⟨idx, h5, ?_⟩
          rw [if_pos k0, ep hp, ep']; exact stay _ rfl
        · have m0 : may c ⟨b, g, s⟩ (ins c) = 0 := by rw [hmay _ (by omega) (by omega), if_neg hm]
          rw [if_neg (by omega), if_pos m0, ep hp]
          exact logged (ins c) 0 (fun us' x' => GoInv c n lim ⟨i + 1, pts + 1, tr, hd, us', x'⟩ ∧ i + 1 = i + 1) (by omega) (by omega) (by omega) (fun us' x' e1 e2 e3 => done hp us' x' e1 e2 e3 (by omega))
    · have k1 : k = 1 := by omega
      rw [if_neg k0, if_pos k1]
      by_cases hp : pts = c.r
      · rw [if_pos hp]; exact stay _ rfl
      · rw [if_neg hp]
        by_cases hm : ins c > lim - us
        · rw [if_pos (by rw [hmay _ (by omega) (by omega), if_pos hm]), eus _ (by omega) (by omega), if_neg (by omega)]
          refine ⟨idx, h5, ?_⟩
          rw [if_neg k0, if_pos k1, ep hp, ep']; exact stay _ rfl
        · have m0 : may c ⟨b, g, s⟩ (ins c) = 0 := by rw [hmay _ (by omega) (by omega), if_neg hm]
          rw [if_neg (by omega), if_pos m0, ep hp]
          exact logged (ins c) 0 (fun us' x' => GoInv c n lim ⟨i + 1, pts + 1, tr, hd, us', x'⟩ ∧ i + 1 = i + 1) (by omega) (by omega) (by omega) (fun us' x' e1 e2 e3 => done hp us' x' e1 e2 e3 (by omega))
  have k0 : ¬(k = 0) := fun e => k01 (.inl e)
  have k1 : ¬(k = 1) := fun e => k01 (.inr e)
  rw [if_neg k0, if_neg k1]
  by_cases k2 : k = 2
  · -- a delete
    rw [if_pos k2]
    by_cases hp : pts = 0
    · rw [if_pos hp]; exact stay _ rfl
    · rw [if_neg hp]
      have ep : wrapF .i64 (Int.sub pts 1) = pts - 1 := wsub (by omega) (by omega)
      by_cases hm : del c > lim - us
      · rw [if_pos (by rw [hmay _ (by omega) (by omega), if_pos hm]), eus _ (by omega) (by omega), if_neg (by omega)]
        refine ⟨idx, h5, ?_⟩
        have ep' : wrapF .i64 (Int.add (pts - 1) 1) = pts := by rw [wadd (by omega) (by omega)]; omega
        rw [if_neg k0, if_neg k1, if_pos k2, ep, ep']; exact stay _ rfl
      · have m0 : may c ⟨b, g, s⟩ (del c) = 0 := by rw [hmay _ (by omega) (by omega), if_neg hm]
        rw [if_neg (by omega), if_pos m0, ep]
        refine logged (del c) 0 (fun us' x' => GoInv c n lim ⟨i + 1, pts - 1, tr, hd, us', x'⟩ ∧ i + 1 = i + 1) (by omega) (by omega) (by omega) ?_
        intro us' x' e1 e2 e3
        subst e1; subst e2
        refine ⟨⟨by show 0 ≤ i + 1; omega, by show i + 1 ≤ (n : Int); omega, by show 0 ≤ pts - 1; omega, by show pts - 1 ≤ c.r; omega, e3, by show us + del c = b + (g + del c) + s; omega, by show us + del c ≤ lim; omega, hs, ?_⟩, rfl⟩
        show bsz c (pts - 1) (if tr = true then isz c else 0) ≤ b + (g + del c)
        have := bsz_step hb (a := pts - 1) (by omega) (by omega) tr
        rw [show pts - 1 + 1 = pts by omega] at this
        omega
  rw [if_neg k2]
  by_cases k3 : k = 3
  · rw [if_pos k3]
    have e0 : wrapF .i64 (Int.add us 0) = us := by rw [wadd (by omega) (by omega)]; omega
    cases hd with
    | true =>
      rw [if_pos rfl] at hs
      have se : swdE ⟨b, g, s⟩ = 0 := swdE_yes ⟨lk, by show s ≠ 0; omega⟩
      have sl' : swdL ⟨b, g, s⟩ = ⟨b, g + s, 0⟩ := by unfold swdL; rw [if_pos se]
      have lk' : lok ⟨b, g + s, 0⟩ = true := lok_of (by omega)
      have u' : used ⟨b, g + s, 0⟩ = us := by rw [used_yes lk']; show b + (g + s) + 0 = us; omega
      have r' : rst c ⟨b, g + s, 0⟩ = lim - us := by rw [hrst _ _ _ lk' (by omega)]; omega
      have fin : GoInv c n lim ⟨i + 1, pts, true, false, us, ⟨b, g + s, 0⟩⟩ ∧ i + 1 = i + 1 := by
        refine ⟨⟨by show 0 ≤ i + 1; omega, by show i + 1 ≤ (n : Int); omega, p0, p1, lk', by show us = b + (g + s) + 0; omega, ul, by show (0 : Int) = if false = true then swp c else 0; simp, ?_⟩, rfl⟩
        show bsz c pts (if true = true then isz c else 0) ≤ b + (g + s)
        rw [if_pos rfl]
        have ht := bsz_tr hb p0 p1
        cases tr with
        | true => rw [if_pos rfl] at bs; omega
        | false => rw [if_neg (by simp)] at bs; omega
      cases tr with
      | true =>
        simp only [ifp_true, ifp_false]
        rw [if_neg (by rw [se]; decide), if_pos se, sl', e0, elim us (by omega) (by omega)]
        rw [if_pos u', if_pos ul, if_pos r', if_pos (by show (0 : Int) ≤ 0; omega)]; exact ⟨fin.1, trivial⟩
      | false =>
        simp only [ifp_true, ifp_false]
        rw [if_pos se, if_neg (by rw [se]; decide), if_pos se, sl', e0, elim us (by omega) (by omega)]
        rw [if_pos u', if_pos ul, if_pos r', if_pos (by show (0 : Int) ≤ 0; omega)]; exact ⟨fin.1, trivial⟩
    | false =>
      rw [if_neg (by simp)] at hs
      simp only [ifp_true, ifp_false]
      have he : hldE c ⟨b, g, s⟩ = may c ⟨b, g, s⟩ (swp c) := by unfold hldE; rw [if_pos hs]
      by_cases hm : swp c > lim - us
      · rw [if_pos (by rw [he, hmay _ (by omega) (by omega), if_pos hm]), eus _ (by omega) (by omega), if_neg (by omega)]
        refine ⟨idx, h5, ?_⟩
        rw [if_neg k0, if_neg k1, if_neg k2]; exact ⟨(stay _ rfl).1, trivial⟩
      · have m0 : hldE c ⟨b, g, s⟩ = 0 := by rw [he, hmay _ (by omega) (by omega), if_neg hm]
        have hl' : hldL c ⟨b, g, s⟩ = ⟨b, g, swp c⟩ := by unfold hldL; rw [if_pos m0]
        have lk' : lok ⟨b, g, swp c⟩ = true := lok_of (by omega)
        rw [if_neg (by omega), if_pos m0, hl', eus _ (by omega) (by omega), elim _ (by omega) (by omega)]
        rw [if_pos (by rw [used_yes lk']; show b + g + swp c = us + swp c; omega), if_pos (by omega), if_pos (by rw [hrst _ _ _ lk' (by omega)]; omega), if_neg (by show ¬(swp c ≤ 0); omega)]
        exact ⟨⟨by show 0 ≤ i + 1; omega, by show i + 1 ≤ (n : Int); omega, p0, p1, lk', by show us + swp c = b + g + swp c; omega, by show us + swp c ≤ lim; omega, by show swp c = if true = true then swp c else 0; simp, bs⟩, trivial⟩
  rw [if_neg k3]
  have be : bsdE c ⟨b, g, s⟩ pts = 0 := bsdE_yes ⟨hg, lk, p0, p1⟩
  have based : ∀ t : Bool, tr = t → ∀ B : Int, B = bsz c pts (if t = true then isz c else 0) → bsdL c ⟨b, g, s⟩ pts t = ⟨B, 0, s⟩ ∧ lok ⟨B, 0, s⟩ = true ∧ used ⟨B, 0, s⟩ = B + s ∧ B + s ≤ us ∧ 0 ≤ B + s ∧ wrapF .i64 (Int.add (B + s) 0) = B + s ∧ rst c ⟨B, 0, s⟩ = lim - (B + s) ∧
      (GoInv c n lim ⟨i + 1, pts, t, hd, B + s, ⟨B, 0, s⟩⟩ ∧ i + 1 = i + 1) := by
    intro t et B eB
    subst et
    have hB := bsz_le c pts (if tr = true then isz c else 0)
    rw [← eB] at hB bs
    have lk' : lok ⟨B, 0, s⟩ = true := lok_of (by omega)
    have u' : used ⟨B, 0, s⟩ = B + s := by rw [used_yes lk']; show B + 0 + s = B + s; omega
    refine ⟨by unfold bsdL; rw [if_pos be, ← eB], lk', u', by omega, by omega, by rw [wadd (by omega) (by omega)]; omega, by rw [hrst _ _ _ lk' (by omega)]; omega, ⟨by show 0 ≤ i + 1; omega, by show i + 1 ≤ (n : Int); omega, p0, p1, lk', by show B + s = B + 0 + s; omega, by show B + s ≤ lim; omega, hs, ?_⟩, rfl⟩
    show bsz c pts (if tr = true then isz c else 0) ≤ B + 0
    omega
  cases tr with
  | true =>
    simp only [ifp_true]
    obtain ⟨a1, a2, a3, a4, a5, a6, a7, a8⟩ := based true rfl _ rfl
    rw [if_pos be, a1, a3, if_pos a4, if_pos (by show (0 : Int) = 0; rfl), if_pos (by show s = s; rfl), if_neg (by rw [be]; decide), if_pos be, a6, if_pos rfl, if_pos (by omega), elim _ a5 (by omega), if_pos a7]
    cases hd with
    | true => rw [if_pos rfl] at hs; rw [if_neg (by show ¬(s ≤ 0); omega)]; exact ⟨a8.1, trivial⟩
    | false => rw [if_neg (by simp)] at hs; rw [if_pos (by show s ≤ 0; omega)]; exact ⟨a8.1, trivial⟩
  | false =>
    simp only [ifp_false]
    obtain ⟨a1, a2, a3, a4, a5, a6, a7, a8⟩ := based false rfl _ rfl
    rw [if_pos be, a1, a3, if_pos a4, if_pos (by show (0 : Int) = 0; rfl), if_pos (by show s = s; rfl), if_neg (by rw [be]; decide), if_pos be, a6, if_pos rfl, if_pos (by omega), elim _ a5 (by omega), if_pos a7]
    cases hd with
    | true => rw [if_pos rfl] at hs; rw [if_neg (by show ¬(s ≤ 0); omega)]; exact ⟨a8.1, trivial⟩
    | false => rw [if_neg (by simp)] at hs; rw [if_pos (by show s ≤ 0; omega)]; exact ⟨a8.1, trivial⟩
def onCw (o : Ob) (k : C → Prop) : Prop :=
  match o with
  | .row [.int .i64 d, .int .i64 p, .int .i64 w, .int .i64 l, .int .i64 r, .int .i64 i, .int .i64 q, .int .i64 s] 23 => k ⟨d, p, w, l, r, i, q, s⟩
  | _ => False
structure GoPre (c : C) (a1 : AV) (lim : Int) (z : Z) : Prop where
  g : good c = true
  l : lim = c.s - rsv c
  a : ∃ (sl : List AV) (n cap : Nat), a1 = .vs sl n cap true none 1 ∧ n ≤ 200 ∧ AV.unders 8 sl ∧ (∀ i : Nat, i < n → ∃ x : Int, nth i sl = some (AV.int .i64 x)) ∧ GoInv c n lim z
noncomputable def goOut : Out := ⟨.exit 0, mkT [(6, iA 0)], [], { heap := mkT [], next := 8 }⟩
noncomputable def goC : LoopC := fun ro nt T D st Q =>
  noneO ro ∧ st.next = 8 ∧ obW (st.heap.get 0) fun o => onCw o fun c => obW (T.get 1) fun a1 => obW (T.get 7) fun v => onIw v fun lim => goRd c a1 lim T D st fun z => GoPre c a1 lim z ∧ Q goOut
noncomputable def KG : Known := { tab := knowV ftA, lp := fun f id => Bool.rec none (Bool.rec none (some goC) (Nat.beq id 10)) (Nat.beq f 5) }
theorem onIw_inv {v : AV} {k : Int → Prop} (h : onIw v k) : ∃ n, v = iA n ∧ k n := by
  unfold onIw at h
  split at h
  · exact ⟨_, rfl, h⟩
  · exact h.elim
theorem onBw_inv {v : AV} {k : Bool → Prop} (h : onBw v k) : ∃ n, v = bA n ∧ k n := by
  unfold onBw at h
  split at h
  · exact ⟨_, rfl, h⟩
  · exact h.elim
theorem onLw_inv {o : Ob} {k : L → Prop} (h : onLw o k) : ∃ l, o = .row (lA l).cells 33 ∧ k l := by
  unfold onLw at h
  split at h
  · exact ⟨⟨_, _, _⟩, rfl, h⟩
  · exact h.elim
theorem noD_eq {D : List ADef} (h : noD D) : D = [] := by cases D with | nil => rfl | cons a l => exact h.elim
theorem goRd_inv {c : C} {a1 : AV} {lim : Int} {T : Tr AV} {D : List ADef} {st : St} {k : Z → Prop} (h : goRd c a1 lim T D st k) (ha : AV.under 8 a1) :
    ∃ z, D = [] ∧ Re 8 id T st (goT a1 lim z) (goSt c z) ∧ k z := by
  unfold goRd at h
  obtain ⟨⟨hD, h1, h2, h5, h6, h7, h0⟩, h⟩ := h
  simp only [obW_iff] at h
  obtain ⟨v8, g8, h⟩ := h
  obtain ⟨pts, rfl, h⟩ := onIw_inv h
  obtain ⟨v9, g9, h⟩ := h
  obtain ⟨tr, rfl, h⟩ := onBw_inv h
  obtain ⟨v10, g10, h⟩ := h
  obtain ⟨hd, rfl, h⟩ := onBw_inv h
  obtain ⟨v11, g11, h⟩ := h
  obtain ⟨us, rfl, h⟩ := onIw_inv h
  obtain ⟨v12, g12, h⟩ := h
  obtain ⟨i, rfl, h⟩ := onIw_inv h
  obtain ⟨o1, j1, h⟩ := h
  obtain ⟨x, rfl, h⟩ := onLw_inv h
  refine ⟨_, noD_eq hD, ?_, h⟩
  refine Re.of 8 id ?_ ?_ (fun b b' _ _ e => e) (fun b _ => rfl)
  · intro p hp
    rw [ren_id]
    simp only [List.mem_cons, List.not_mem_nil, or_false] at hp
    rcases hp with rfl | rfl | rfl | rfl | rfl | rfl | rfl | rfl | rfl | rfl
    · exact ⟨h1, ha⟩
    · exact ⟨h2, by show 0 < 8; omega⟩
    · exact ⟨h5, by show 1 < 8; omega⟩
    · exact ⟨h6, trivial⟩
    · exact ⟨h7, trivial⟩
    · exact ⟨g8, trivial⟩
    · exact ⟨g9, trivial⟩
    · exact ⟨g10, trivial⟩
    · exact ⟨g11, trivial⟩
    · exact ⟨g12, trivial⟩
  · intro p hp
    simp only [List.mem_cons, List.not_mem_nil, or_false] at hp
    rcases hp with rfl | rfl
    · exact ⟨by show 0 < 8; omega, h0, ⟨trivial, trivial, trivial, trivial, trivial, trivial, trivial, trivial, trivial⟩⟩
    · exact ⟨by show 1 < 8; omega, j1, ⟨trivial, trivial, trivial, trivial⟩⟩
theorem goLoop : LoopOk Try.prog 5 194 (.loop (loopBody Try.prog 5 10)) goC := by
  intro ro T D st Q h
  unfold goC at h
  obtain ⟨hro, hst, h⟩ := h
  obtain rfl := noneO_eq hro
  simp only [obW_iff] at h
  obtain ⟨o0, h0, h⟩ := h
  unfold onCw at h
  split at h
  case h_2 => exact h.elim
  rename_i d p w l r i q s
  obtain ⟨a1, h1, v7, h7, h⟩ := h
  obtain ⟨lim, e7, hA⟩ := onIw_inv h
  subst e7
  have ha : AV.under 8 a1 := by
    have h' := hA
    unfold goRd at h'
    obtain ⟨_, h'⟩ := h'
    simp only [obW_iff] at h'
    obtain ⟨_, _, h'⟩ := h'
    obtain ⟨_, _, h'⟩ := onIw_inv h'
    obtain ⟨_, _, h'⟩ := h'
    obtain ⟨_, _, h'⟩ := onBw_inv h'
    obtain ⟨_, _, h'⟩ := h'
    obtain ⟨_, _, h'⟩ := onBw_inv h'
    obtain ⟨_, _, h'⟩ := h'
    obtain ⟨_, _, h'⟩ := onIw_inv h'
    obtain ⟨_, _, h'⟩ := h'
    obtain ⟨_, _, h'⟩ := onIw_inv h'
    obtain ⟨_, _, h'⟩ := h'
    obtain ⟨_, _, h'⟩ := onLw_inv h'
    obtain ⟨⟨_, _, sl, n, cap, rfl, _, hu, _⟩, _⟩ := h'
    exact ⟨hu, fun b hb => by cases hb⟩
  obtain ⟨z, hD, hre, hpre, hQ⟩ := goRd_inv hA ha
  subst hD
  obtain ⟨hg, hl, sl, n, cap, rfl, hn, hu, hsl, hinv⟩ := hpre
  obtain ⟨o, h1, h2⟩ := loop_from (P := Try.prog) (N := 8) (fn := 5) (nt := 194) (y := loopBody Try.prog 5 10) (fun z : Z => (n - z.i).toNat) (GoInv _ n lim) (fun z => (goT (.vs sl n cap true none 1) lim z, goSt _ z)) (fun _ o => o = goOut) (fun z _ => Nat.le_refl 8)
    (by
      intro z hz
      obtain ⟨⟨ex, T1, D1, st1⟩, k1, k2⟩ := (runW_sound mixed (knowV_ok okA) 200).code _ _ _ _ _ _ _ _ (goStep _ sl n cap lim z hg hl hn hsl hz)
      cases ex with
      | normal =>
        have k3 : goRd _ (.vs sl n cap true none 1) lim T1 D1 st1 (fun z' => GoInv _ n lim z' ∧ z'.i = z.i + 1) := k2
        obtain ⟨z', e1, e2, e3, e4⟩ := goRd_inv k3 ha
        subst e1
        refine ⟨_, k1, rfl, .inl ⟨rfl, z', id, e3, ?_, e2, fun o' h => h⟩⟩
        have := hz.i1
        have := e3.i1
        show (n - z'.i).toNat < (n - z.i).toNat
        omega
      | exit i =>
        have k3 : (noD D1 ∧ T1.get 6 = some (iA 0)) ∧ i = 0 := k2
        obtain ⟨⟨e1, e2⟩, e3⟩ := k3
        have e1' := noD_eq e1
        subst e1'
        subst e3
        refine ⟨_, k1, rfl, .inr ⟨by simp, mkT [(6, iA 0)], { heap := mkT [], next := 8 }, id, ?_, Nat.le_refl 8, rfl⟩⟩
        refine Re.of 8 id ?_ (fun p hp => by simp at hp) (fun b b' _ _ e => e) (fun b _ => rfl)
        intro p hp
        simp only [List.mem_cons, List.not_mem_nil, or_false] at hp
        subst hp
        exact ⟨by rw [ren_id]; exact e2, trivial⟩
      | ret => exact k2.elim)
    (T := T) (st := st) (z := z) (τ := id) hst.symm hinv hre
  subst h2
  exact ⟨_, h1, hQ⟩
end Go.Proofs.Ythlkmjgpmjnngaa
