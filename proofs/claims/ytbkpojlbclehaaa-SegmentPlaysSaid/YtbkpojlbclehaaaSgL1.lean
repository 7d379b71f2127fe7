/- The laws of segment, walked: what calls return. -/
import Derived.Test.YtbkpojlbclehaaaSgW7
import Derived.Test.YtbkpojlbclehaaaLrR2
import Derived.Test.YtbkpojlbclehaaaSlInt
import Derived.Test.YtbkpojlbclehaaaEqTypes
namespace Go.Sg
open Go.Sl
/-- Slots and costs, one after the other. -/
def flat (X : List It) : List Int := X.flatMap fun x => [(x.1 : Int), (x.2 : Int)]
theorem flat_len {X : List It} : (flat X).length = 2 * X.length := by
  induction X with
  | nil => rfl
  | cons x X ih =>
    show (_ :: _ :: flat X).length = _
    simp only [List.length_cons, ih]; omega
theorem flat_at : ∀ {X : List It} {i : Nat}, i < X.length → (flat X).getD (2 * i) 0 = ((X.getD i (0, 0)).1 : Int) ∧ (flat X).getD (2 * i + 1) 0 = ((X.getD i (0, 0)).2 : Int)
  | [], i, h => by simp at h
  | x :: X, 0, _ => ⟨rfl, rfl⟩
  | x :: X, i + 1, h => by
    have ih := flat_at (X := X) (i := i) (by simp at h; omega)
    have e : flat (x :: X) = (x.1 : Int) :: (x.2 : Int) :: flat X := rfl
    rw [e, show 2 * (i + 1) = 2 * i + 1 + 1 by omega, show 2 * i + 1 + 1 + 1 = (2 * i + 1) + 1 + 1 by omega]
    simp only [List.getD_cons_succ]
    exact ih
/-- Whether two lists are the same. -/
structure SameW (X Y : List It) (b : Bool) : Prop where
  out : decide (X = Y) = b
/-- A list that is written out. -/
structure FlatI (zs : List Int) (X : List It) : Prop where
  out : zs = flat X
  lt : ∀ x ∈ X, x.1 < 4294967296
/-- A use, and what is behind. -/
structure UseTo (P T : List It) (L : Int) (k : Nat) (z : Int) (P' T' : List It) (G : List Nat) (e : Int) : Prop where
  p : (Sg.useS ⟨P, T, L⟩ k z).P = P'
  t : (Sg.useS ⟨P, T, L⟩ k z).T = T'
  g : Sg.useG ⟨P, T, L⟩ k z = G
  e : Sg.useE ⟨P, T, L⟩ k z = e
/-- Another limit, and what is behind. -/
structure LimTo (P T : List It) (L : Int) (z : Int) (P' T' : List It) (L' : Int) (G : List Nat) (e : Int) : Prop where
  p : (Sg.limS ⟨P, T, L⟩ z).P = P'
  t : (Sg.limS ⟨P, T, L⟩ z).T = T'
  l : (Sg.limS ⟨P, T, L⟩ z).L = L'
  g : Sg.limG ⟨P, T, L⟩ z = G
  e : Sg.limE z = e
/-- A slot that is added, and what is behind. -/
structure AddTo (P T : List It) (L : Int) (k : Nat) (z : Int) (P' T' : List It) (e : Int) : Prop where
  p : (Sg.addS ⟨P, T, L⟩ k z).P = P'
  t : (Sg.addS ⟨P, T, L⟩ k z).T = T'
  e : Sg.addE ⟨P, T, L⟩ k z = e
/-- A slot that is removed, and what is behind. -/
structure RemTo (P T : List It) (L : Int) (k : Nat) (P' T' : List It) (e : Int) : Prop where
  p : (Sg.remS ⟨P, T, L⟩ k).P = P'
  t : (Sg.remS ⟨P, T, L⟩ k).T = T'
  e : Sg.remE ⟨P, T, L⟩ k = e
/-- Whether two lists of numbers are the same. -/
structure SameU (xs ys : List Nat) (b : Bool) : Prop where
  out : decide (xs = ys) = b
end Go.Sg
namespace Go.Proofs.Ytbkpojlbclehaaa
open Go.Lk Go.Sl Go.Lr Go.Sg
attribute [local irreducible] TK TL TC Th Bk Nx fnPost WA TQ OpQ OpN SpecH Rd Ent IterH RoundH Rb Rp fnPostM
attribute [local irreducible] Fld.addE Fld.addF Fld.befE Fld.befF Fld.inE Fld.remF Fld.first Fld.last Fld.next Fld.prev Fld.ofR Fld.listOf Fld.joinE Fld.joinF renE renG Fld.at Fld.set Fld.place
attribute [local irreducible] Lr.addL Lr.addE Lr.useL Lr.remE Sg.sm Sg.sl Sg.rm Sg.demN Sg.flat
set_option maxHeartbeats 4000000 in
instance sgr_same : Known Try.prog 51 (∀ (a a2 : Option Addr) (m m2 c c2 : Nat) (X Y : List It) (b : Bool), SameW X Y b → m = X.length → m2 = Y.length → m ≤ 4194304 → m2 ≤ 4194304 → SpecH Try.prog 51 #[.slice a m c, .slice a2 m2 c2] [RoS 2 a m c (wc X), RoS 2 a2 m2 c2 (wc Y)] (fun _ : Unit => .bool b) (fun _ => [])) := ⟨fun a a2 m m2 c c2 X Y b hb hm hm2 hx hy => by
  subst hm; subst hm2
  have hb := hb.out
  refine spec_of Try.func51 rfl Try.ntmps51 rfl [(0, _), (1, _)] rfl ?_; intro base F l0 hl0; (try simp only [List.cons_append] at hl0); (try simp only [List.nil_append] at hl0); subst hl0
  by_cases hlen : X.length = Y.length
  · repeat' (first | refine stw ?_ | refine And.intro ?_ ?_ | (intro e; exfalso; omega) | (intro e; subst e) | intro _)
    refine tc_lp (ι := {i : Nat // i ≤ X.length ∧ ∀ j, j < i → X.getD j (0, 0) = Y.getD j (0, 0)}) [5] (fun e i => (5, .int .i64 i.1) :: e) (fun _ => _) (fun i => X.length - i.1) ⟨0, by omega, by omega⟩ ?_ (hl := Ent.refl _)
    rintro K ⟨i, hi, he⟩ hK
    dsimp only
    by_cases hc : i < X.length
    · by_cases h1 : (X.getD i (0, 0)).1 = (Y.getD i (0, 0)).1
      · by_cases h2 : (X.getD i (0, 0)).2 = (Y.getD i (0, 0)).2
        · repeat' (first | refine stw ?_ | refine And.intro ?_ ?_ | (intro e; exfalso; omega) | (intro e; subst e) | intro _)
          exact again hK ⟨i + 1, by omega, fun j hj => by
            rcases Nat.lt_or_ge j i with x | x
            · exact he j x
            · obtain rfl : j = i := by omega
              exact Prod.ext h1 h2⟩
        · have e : X ≠ Y := fun e => h2 (by rw [e])
          rw [decide_eq_false e] at hb
          subst hb
          repeat' (first | refine stw ?_ | refine And.intro ?_ ?_ | (intro e; exfalso; omega) | (intro e; subst e) | intro _)
          · exact rt1 () rfl
          · rename_i ha
            exact (@of_decide_eq_false _ (Classical.propDecidable _) ha fun ⟨_, y⟩ => h2 (by omega)).elim
      · have e : X ≠ Y := fun e => h1 (by rw [e])
        rw [decide_eq_false e] at hb
        subst hb
        repeat' (first | refine stw ?_ | refine And.intro ?_ ?_ | (intro e; exfalso; omega) | (intro e; subst e) | intro _)
        · exact rt1 () rfl
        · rename_i ha
          exact (@of_decide_eq_false _ (Classical.propDecidable _) ha fun ⟨x, _⟩ => h1 (by omega)).elim
    · obtain rfl : i = X.length := by omega
      have e : X = Y := by
        refine List.ext_getElem hlen fun j q1 q2 => ?_
        have := he j q1
        rw [List.getD_eq_getElem?_getD, List.getD_eq_getElem?_getD, List.getElem?_eq_getElem q1, List.getElem?_eq_getElem q2] at this
        exact this
      rw [decide_eq_true e] at hb
      subst hb
      repeat' (first | refine stw ?_ | refine And.intro ?_ ?_ | (intro e; exfalso; omega) | (intro e; subst e) | intro _)
      exact rt1 () rfl
  · have e : X ≠ Y := fun e => hlen (by rw [e])
    rw [decide_eq_false e] at hb
    subst hb
    repeat' (first | refine stw ?_ | refine And.intro ?_ ?_ | (intro e; exfalso; omega) | (intro e; subst e) | intro _)
    exact rt1 () rfl⟩
set_option maxHeartbeats 4000000 in
instance sgl_weighed : Known Try.prog 88 (∀ (a : Option Addr) (n c : Nat) (cs : List Value) (zs : List Int) (X : List It), AsI cs zs → FlatI zs X → n = zs.length → n ≤ 1000 → SpecH Try.prog 88 #[.slice a n c] [RoS 1 a n c cs] (fun q : Option Addr × Nat => .slice q.1 X.length q.2) (fun q => [RoS 2 q.1 X.length q.2 (wc X)])) := ⟨fun a n c cs zs X hcs hf hn hx => by
  subst hn
  rw [hcs.out]
  have hfl := flat_len (X := X)
  have hfe := hf.out
  subst hfe
  refine spec_of Try.func88 rfl Try.ntmps88 rfl [(0, _)] rfl ?_; intro base F l0 hl0; (try simp only [List.cons_append] at hl0); (try simp only [List.nil_append] at hl0); subst hl0
  repeat' (first | refine stw ?_ | refine And.intro ?_ ?_ | (intro e; exfalso; omega) | (intro e; subst e) | intro _)
  refine tc_lp (ι := {q : Nat × Option Addr × Nat // q.1 ≤ X.length}) [3, 4] (fun e q => (3, .slice q.1.2.1 q.1.1 q.1.2.2) :: (4, .int .i64 (2 * q.1.1 : Nat)) :: e) (fun q => [Vec 50 2 q.1.2.1 q.1.1 q.1.2.2 (wc (X.take q.1.1)), RoS 1 a (flat X).length c (intsV .i64 (flat X)), F]) (fun q => X.length - q.1.1) ⟨(0, none, 0), by omega⟩ ?_
    (hl := by show Ent _ [Vec 50 2 none 0 0 [], RoS 1 a (flat X).length c (intsV .i64 (flat X)), F]; exact en)
  rintro K ⟨⟨i, b, w⟩, hi⟩ hK
  dsimp only at hi ⊢
  by_cases hc : i < X.length
  · obtain ⟨f1, f2⟩ := flat_at hc
    have hlt := hf.lt _ (getD_inS hc)
    dsimp only at hlt
    have hsn := take_snocS hc
    repeat' (first | ((fail_if_success (refine atD ?_)); refine stw ?_) | refine And.intro ?_ ?_ | (intro e; exfalso; omega) | (intro e; subst e) | intro _)
    refine drx [Vec 50 2 b i w (wc (X.take i))] ?_
    refine tks [0, 1, 2, 6, 7, 3, 8, 4, 9, 5, 10, 11] 3 ?_; repeat' (first | refine stw ?_ | refine And.intro ?_ ?_ | (intro e; subst e) | intro _)
    refine hv 12 (fun x12 => ?_) (hq := by (try simp only [List.cons_append, List.nil_append]); ((apply opn_buildSliceN; (focus ((first | exact want_none rfl | exact want_yes rfl rfl rfl rfl rfl | fail))); (focus ((repeat (first | exact Evs.nil | (apply Evs.cons; exact rfl) | fail)); done)); exact rfl; (focus ((repeat (first | exact CsL.nil | (apply CsL.cons; (focus ((first | exact IsCells.one rfl | exact IsCells.agg _ rfl | fail))); exact rfl) | fail)); done)); exact rfl; exact rfl; (focus (simp only [List.append_nil]; exact rfl)))))
    refine hv 13 fun x13 => ?_
    refine tks [14] 0 ?_; repeat' (first | refine stw ?_ | refine And.intro ?_ ?_ | (intro e; subst e) | intro _)
    rw [f1, f2, ← wc_snoc (x := ((X.getD i (0, 0)).1, (X.getD i (0, 0)).2)), ← hsn]
    exact again hK ⟨(i + 1, x13), by omega⟩ (by dsimp only; omega)
  · obtain rfl : i = X.length := by omega
    rw [List.take_length]
    repeat' (first | refine stw ?_ | refine And.intro ?_ ?_ | (intro e; exfalso; omega) | (intro e; subst e) | intro _)
    refine frz b ?_
    exact rt1 (b, w) rfl⟩
theorem sg_useT : Known Try.prog 20 (∀ (p : Nat) (P T : List It) (L : Int) (xk : Int) (k : Nat) [NatI xk k] (z : Int) (P' T' : List It) (G : List Nat) (e : Int), UseTo P T L k z P' T' G e → SpecH Try.prog 20 #[.pointer (some ⟨p, 0, none⟩), .int .u32 xk, .int .i64 z] [SegAt p P T L] (fun q : Option Addr × Nat => .tuple #[.slice q.1 G.length q.2, .int .i64 e]) (fun q => [SegAt p P' T' L, RoS 1 q.1 G.length q.2 (u32s G)])) := ⟨fun p P T L xk k _ z P' T' G e u => by
  have h := sg_use.out p P T L xk k z
  rwa [u.p, u.t, u.g, u.e] at h⟩
theorem sg_limitT : Known Try.prog 22 (∀ (p : Nat) (P T : List It) (L z : Int) (P' T' : List It) (L' : Int) (G : List Nat) (e : Int), LimTo P T L z P' T' L' G e → SpecH Try.prog 22 #[.pointer (some ⟨p, 0, none⟩), .int .i64 z] [SegAt p P T L] (fun q : Option Addr × Nat => .tuple #[.slice q.1 G.length q.2, .int .i64 e]) (fun q => [SegAt p P' T' L', RoS 1 q.1 G.length q.2 (u32s G)])) := ⟨fun p P T L z P' T' L' G e u => by
  have h := sg_limit.out p P T L z
  rwa [u.p, u.t, u.l, u.g, u.e] at h⟩
theorem sg_addT : Known Try.prog 19 (∀ (p : Nat) (P T : List It) (L : Int) (xk : Int) (k : Nat) [NatI xk k] (z : Int) (P' T' : List It) (e : Int), AddTo P T L k z P' T' e → SpecH Try.prog 19 #[.pointer (some ⟨p, 0, none⟩), .int .u32 xk, .int .i64 z] [SegAt p P T L] (fun _ : Unit => .int .i64 e) (fun _ => [SegAt p P' T' L])) := ⟨fun p P T L xk k _ z P' T' e u => by
  have h := sg_add.out p P T L xk k z
  rwa [u.p, u.t, u.e] at h⟩
theorem sg_removeT : Known Try.prog 21 (∀ (p : Nat) (P T : List It) (L : Int) (xk : Int) (k : Nat) [NatI xk k] (P' T' : List It) (e : Int), RemTo P T L k P' T' e → SpecH Try.prog 21 #[.pointer (some ⟨p, 0, none⟩), .int .u32 xk] [SegAt p P T L] (fun _ : Unit => .int .i64 e) (fun _ => [SegAt p P' T' L])) := ⟨fun p P T L xk k _ P' T' e u => by
  have h := sg_remove.out p P T L xk k
  rwa [u.p, u.t, u.e] at h⟩
theorem sgr_sameU : Known Try.prog 28 (∀ (a a2 : Option Addr) (m m2 c c2 : Nat) (cs cs2 : List Value) (xs ys : List Nat) (b : Bool), AsU cs xs → AsU cs2 ys → SameU xs ys b → m = xs.length → m2 = ys.length → m ≤ 4194304 → m2 ≤ 4194304 → SpecH Try.prog 28 #[.slice a m c, .slice a2 m2 c2] [RoS 1 a m c cs, RoS 1 a2 m2 c2 cs2] (fun _ : Unit => .bool b) (fun _ => [])) := ⟨fun a a2 m m2 c c2 cs cs2 xs ys b h1 h2 hb h3 h4 h5 h6 => by
  have := lrr_same.out a a2 m m2 c c2 cs cs2 xs ys h1 h2 h3 h4 h5 h6
  rwa [hb.out] at this⟩
instance sgl_lists : Known Try.prog 50 (∀ (p : Nat) (P T : List It) (L g : Int) (a : Option Addr) (n c : Nat) (cs : List Value) (zs : List Int) (X : List It), AsI cs zs → FlatI zs X → ListG g P T X → n = zs.length → n ≤ 1000 → SpecH Try.prog 50 #[.pointer (some ⟨p, 0, none⟩), .int .i64 g, .slice a n c] [SegAt p P T L, RoS 1 a n c cs] (fun _ : Unit => .bool true) (fun _ => [SegAt p P T L])) := ⟨fun p P T L g a n c cs zs X h1 h2 h3 hn hx => by
  refine spec_of Try.func50 rfl Try.ntmps50 rfl [(0, _), (1, _), (2, _)] rfl ?_; intro base F l0 hl0; (try simp only [List.cons_append] at hl0); (try simp only [List.nil_append] at hl0); subst hl0
  have hs : SameW X X true := ⟨decide_eq_true rfl⟩
  have hl : n = 2 * X.length := by rw [hn, h2.out]; exact flat_len
  repeat' (first | refine stw ?_ | refine And.intro ?_ ?_ | (intro e; exfalso; omega) | (intro e; subst e) | intro _)
  exact rt1 () rfl⟩
instance sgl_uses : Known Try.prog 32 (∀ (p : Nat) (P T : List It) (L : Int) (xk : Int) (k : Nat) [NatI xk k] (z : Int) (P' T' : List It) (G : List Nat) (e : Int) (a : Option Addr) (n c : Nat) (cs : List Value), UseTo P T L k z P' T' G e → AsU cs G → n = G.length → n ≤ 4194304 → SpecH Try.prog 32 #[.pointer (some ⟨p, 0, none⟩), .int .u32 xk, .int .i64 z, .slice a n c, .int .i64 e] [SegAt p P T L, RoS 1 a n c cs] (fun _ : Unit => .bool true) (fun _ => [SegAt p P' T' L])) := ⟨fun p P T L xk k _ z P' T' G e a n c cs u hc hn hx => by
  obtain rfl : xk = (k : Int) := NatI.out
  refine spec_of Try.func32 rfl Try.ntmps32 rfl [(0, _), (1, _), (2, _), (3, _), (4, _)] rfl ?_; intro base F l0 hl0; (try simp only [List.cons_append] at hl0); (try simp only [List.nil_append] at hl0); subst hl0
  haveI := sg_useT
  haveI := sgr_sameU
  have hs : SameU G G true := ⟨decide_eq_true rfl⟩
  repeat' (first | refine stw ?_ | refine And.intro ?_ ?_ | (intro e; exfalso; omega) | (intro e; subst e) | intro _)
  exact rt1 () rfl⟩
instance sgl_limits : Known Try.prog 33 (∀ (p : Nat) (P T : List It) (L : Int) (z : Int) (P' T' : List It) (L' : Int) (G : List Nat) (e : Int) (a : Option Addr) (n c : Nat) (cs : List Value), LimTo P T L z P' T' L' G e → AsU cs G → n = G.length → n ≤ 4194304 → SpecH Try.prog 33 #[.pointer (some ⟨p, 0, none⟩), .int .i64 z, .slice a n c, .int .i64 e] [SegAt p P T L, RoS 1 a n c cs] (fun _ : Unit => .bool true) (fun _ => [SegAt p P' T' L'])) := ⟨fun p P T L z P' T' L' G e a n c cs u hc hn hx => by
  refine spec_of Try.func33 rfl Try.ntmps33 rfl [(0, _), (1, _), (2, _), (3, _)] rfl ?_; intro base F l0 hl0; (try simp only [List.cons_append] at hl0); (try simp only [List.nil_append] at hl0); subst hl0
  haveI := sg_limitT
  haveI := sgr_sameU
  have hs : SameU G G true := ⟨decide_eq_true rfl⟩
  repeat' (first | refine stw ?_ | refine And.intro ?_ ?_ | (intro e; exfalso; omega) | (intro e; subst e) | intro _)
  exact rt1 () rfl⟩
instance sgl_stands : Known Try.prog 34 (∀ (p : Nat) (P T : List It) (L : Int) (xk : Int) (k : Nat) [NatI xk k] (xg : Int) (g : Nat) [NatI xg g] (xc : Int) (c : Nat) [NatI xc c] (e : Int), OfR P T k g c e → SpecH Try.prog 34 #[.pointer (some ⟨p, 0, none⟩), .int .u32 xk, .int .i64 xg, .int .i64 xc, .int .i64 e] [SegAt p P T L] (fun _ : Unit => .bool true) (fun _ => [SegAt p P T L])) := ⟨fun p P T L xk k _ xg g _ xc c _ e u => by
  obtain rfl : xk = (k : Int) := NatI.out
  obtain rfl : xg = (g : Int) := NatI.out
  obtain rfl : xc = (c : Int) := NatI.out
  refine spec_of Try.func34 rfl Try.ntmps34 rfl [(0, _), (1, _), (2, _), (3, _), (4, _)] rfl ?_; intro base F l0 hl0; (try simp only [List.cons_append] at hl0); (try simp only [List.nil_append] at hl0); subst hl0
  repeat' (first | refine stw ?_ | refine And.intro ?_ ?_ | (intro e; exfalso; omega) | (intro e; subst e) | intro _)
  exact rt1 () rfl⟩
end Go.Proofs.Ytbkpojlbclehaaa
