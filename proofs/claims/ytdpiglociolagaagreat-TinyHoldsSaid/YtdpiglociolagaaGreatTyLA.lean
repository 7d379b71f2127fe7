/- TyLA: TyL1, TyL2, TyL3. -/
import Derived.Test.YtdpiglociolagaaGreatTyR10
import Derived.Test.YtdpiglociolagaaGreatEqTypes
/- The laws of tiny, walked: what calls return. -/
namespace Go.Ty
open Go.Lk Go.Sl Go.Tb Go.Proofs.YtdpiglociolagaaGreat
structure UseT3 (size most lim w : Nat) (seed : BitVec 64) (W A B : List Nat) (m : Mem) (k : Nat) (W' A' B' : List Nat) (m' : Mem) (h b : Bool) (o : Nat) : Prop where
  m : (m.note (10 * size) w (sumB seed (txt k))) = m'
  st : Ty.useW size most lim (fun x => m'.guess w (sumB seed (txt x))) W A B k = ⟨W', A', B'⟩
  h : useHit W A B k = h
  b : useLeft size most W A B k = b
  o : useOut size most (fun x => m'.guess w (sumB seed (txt x))) W A B k = o
structure DropTo (W A B : List Nat) (k : Nat) (W' A' B' : List Nat) (b : Bool) : Prop where
  w : W.erase k = W'
  a : A.erase k = A'
  t : B.erase k = B'
  b : decide (k ∈ W ∨ k ∈ A ∨ k ∈ B) = b
structure GuessTo (w : Nat) (seed : BitVec 64) (m : Mem) (k g : Nat) : Prop where
  out : m.guess w (sumB seed (txt k)) = g
structure SameB (xs ys : List Nat) (b : Bool) : Prop where
  out : decide (xs = ys) = b
theorem Ls3.of {size : Nat} {W A B : List Nat} {kv : List (Nat × Nat)} {K fr Lw Lp Lt : List Nat} (t : Thr size W A B kv K fr Lw Lp Lt) : Ls3 W A B := ⟨t.wnd, t.and', t.bnd, t.disj.1, t.disj.2, fun _ h => t.klt h⟩
theorem TinyAt.factsK {base : World} {n : Nat} {ds : List Deferred} {KK : Act → World → Prop} {env : Env} {l r : List HP} {p size most lim w : Nat} {seed : BitVec 64} {W A B : List Nat} {m : Mem} (h : Ty.Ok size most lim W A B → Ls3 W A B → m.req < 10 * size → TK base n ds KK env l) (hr : Rem l (TinyAt p size most lim w seed W A B m) r := by (repeat (first | (with_reducible exact Rem.here _ _) | (with_reducible apply Rem.there) | fail)); done) : TK base n ds KK env l := by
  refine TK.know (p := Ty.Ok size most lim W A B ∧ Ls3 W A B ∧ m.req < 10 * size) (fun _ y => ?_) fun ⟨h1, h2, h3⟩ => h h1 h2 h3
  unfold TinyAt at hr
  obtain ⟨x, y⟩ := exs_out hr y
  obtain ⟨⟨h1, h2, h3⟩, y⟩ := lst_fact y
  exact ⟨h2, Ls3.of h1, h3⟩
theorem TinyAt.factsC {r0 : Option Nat} {P : Program} {X : Exit → Act → World → Prop} {c : Code} {base : World} {n : Nat} {ds : List Deferred} {env : Env} {l r : List HP} {p size most lim w : Nat} {seed : BitVec 64} {W A B : List Nat} {m : Mem} (h : Ty.Ok size most lim W A B → Ls3 W A B → m.req < 10 * size → TC r0 P base n ds c X env l) (hr : Rem l (TinyAt p size most lim w seed W A B m) r := by (repeat (first | (with_reducible exact Rem.here _ _) | (with_reducible apply Rem.there) | fail)); done) : TC r0 P base n ds c X env l := TinyAt.factsK h hr
end Go.Ty
namespace Go.Proofs.YtdpiglociolagaaGreat
open Go.Lk Go.Sl Go.Gh Go.Ty
attribute [local irreducible] TK TL TC Th Bk Nx fnPost WA TQ OpQ OpN SpecH Rd Ent IterH RoundH Rb Rp fnPostM
attribute [local irreducible] Ty.shS Ty.sumB Ty.plS Ty.at64 Ty.cAdd Ty.plB Ty.bA Ty.bS Ty.hasB Ty.addB Ty.Mem.note Ty.Mem.guess Ty.adN Ty.useW Ty.useHit Ty.useLeft Ty.useOut
set_option maxHeartbeats 2000000 in
instance tyl_uses : Known Tryz.prog 23 (∀ (p size most lim w : Nat) (seed : BitVec 64) (W A B : List Nat) (m : Mem) (xk : Int) (k : Nat) [NatI xk k] (h b : Bool) (xo : Int) (o : Nat) [NatI xo o], k < 4294967296 → SpecH Tryz.prog 23 #[.pointer (some ⟨p, 0, none⟩), .int .u32 xk, .agg #[.bool h, .bool b, .int .u32 xo]] [TinyAt p size most lim w seed W A B m] (fun _ : Unit => .bool (decide (useHit W A B k = h ∧ useLeft size most W A B k = b ∧ useOut size most (fun x => (m.note (10 * size) w (sumB seed (txt k))).guess w (sumB seed (txt x))) W A B k = o))) (fun _ => [TinyAt p size most lim w seed (Ty.useW size most lim (fun x => (m.note (10 * size) w (sumB seed (txt k))).guess w (sumB seed (txt x))) W A B k).W (Ty.useW size most lim (fun x => (m.note (10 * size) w (sumB seed (txt k))).guess w (sumB seed (txt x))) W A B k).A (Ty.useW size most lim (fun x => (m.note (10 * size) w (sumB seed (txt k))).guess w (sumB seed (txt x))) W A B k).B (m.note (10 * size) w (sumB seed (txt k)))])) := ⟨fun p size most lim w seed W A B m xk k _ h b xo o _ hk => by
  obtain rfl : xk = (k : Int) := NatI.out
  obtain rfl : xo = (o : Int) := NatI.out
  refine spec_of Tryz.func23 rfl Tryz.ntmps23 rfl [(0, _), (1, _), (2, _)] rfl ?_; intro base F l0 hl0; (try simp only [List.cons_append] at hl0); (try simp only [List.nil_append] at hl0); subst hl0
  by_cases hu : useHit W A B k = h ∧ useLeft size most W A B k = b ∧ ((useOut size most (fun x => (m.note (10 * size) w (sumB seed (txt k))).guess w (sumB seed (txt x))) W A B k : Nat) : Int) = (o : Int)
  · obtain ⟨h1, h2, h3⟩ := hu
    rw [decide_eq_true ⟨h1, h2, by omega⟩]

    repeat' (first | refine sts ?_ | refine And.intro ?_ ?_ | (intro e; exfalso; omega) | (intro e; subst e) | intro _)
    exact rt1 () rfl
  · rw [decide_eq_false (fun h => hu ⟨h.1, h.2.1, by rw [h.2.2]⟩)]
    repeat' (first | refine sts ?_ | refine And.intro ?_ ?_ | (intro e; exfalso; omega) | (intro e; subst e) | intro _)
    exact rt1 () rfl⟩
theorem rg_sameB : Known Tryz.prog 54 (∀ (a a2 : Option Addr) (m m2 c c2 : Nat) (cs cs2 : List Value) (xs ys : List Nat) (b : Bool), AsU cs xs → AsU cs2 ys → SameB xs ys b → m = xs.length → m2 = ys.length → m ≤ 4194304 → m2 ≤ 4194304 → SpecH Tryz.prog 54 #[.slice a m c, .slice a2 m2 c2] [RoS 1 a m c cs, RoS 1 a2 m2 c2 cs2] (fun _ : Unit => .bool b) (fun _ => [])) := ⟨fun a a2 m m2 c c2 cs cs2 xs ys b h1 h2 hb h3 h4 h5 h6 => by
  have := rg_same.out a a2 m m2 c c2 cs cs2 xs ys h1 h2 h3 h4 h5 h6
  rwa [hb.out] at this⟩
set_option maxHeartbeats 4000000 in
instance tyl_lists : Known Tryz.prog 21 (∀ (p size most lim w : Nat) (seed : BitVec 64) (W A B : List Nat) (m : Mem) (a1 a2 a3 : Option Addr) (n1 n2 n3 c1 c2 c3 : Nat) (cs1 cs2 cs3 : List Value) (xs ys zs : List Nat), AsU cs1 xs → AsU cs2 ys → AsU cs3 zs → n1 = xs.length → n2 = ys.length → n3 = zs.length → n1 ≤ 4096 → n2 ≤ 4096 → n3 ≤ 4096 → SpecH Tryz.prog 21 #[.pointer (some ⟨p, 0, none⟩), .slice a1 n1 c1, .slice a2 n2 c2, .slice a3 n3 c3] [TinyAt p size most lim w seed W A B m, RoS 1 a1 n1 c1 cs1, RoS 1 a2 n2 c2 cs2, RoS 1 a3 n3 c3 cs3] (fun _ : Unit => .bool (decide (W = xs ∧ A = ys ∧ B = zs))) (fun _ => [TinyAt p size most lim w seed W A B m])) := ⟨fun p size most lim w seed W A B m a1 a2 a3 n1 n2 n3 c1 c2 c3 cs1 cs2 cs3 xs ys zs k1 k2 k3 e1 e2 e3 b1 b2 b3 => by
  refine spec_of Tryz.func21 rfl Tryz.ntmps21 rfl [(0, _), (1, _), (2, _), (3, _)] rfl ?_; intro base F l0 hl0; (try simp only [List.cons_append] at hl0); (try simp only [List.nil_append] at hl0); subst hl0
  refine TinyAt.factsC fun o ls hq => ?_
  have x1 := o.s3
  have x2 := o.m2
  have x3 := o.w
  have x4 := o.ab
  haveI := rg_sameB
  by_cases f1 : W = xs
  · have d1 : SameB W xs true := ⟨decide_eq_true f1⟩
    by_cases f2 : A = ys
    · have d2 : SameB A ys true := ⟨decide_eq_true f2⟩
      have d3 : SameB B zs (decide (B = zs)) := ⟨rfl⟩
      rw [show decide (W = xs ∧ A = ys ∧ B = zs) = decide (B = zs) by simp [f1, f2]]
      clear f1 f2
      repeat' (first | refine sts ?_ | refine And.intro ?_ ?_ | (intro e; exfalso; omega) | (intro e; subst e) | intro _)
      exact rt1 () rfl
    · rw [decide_eq_false (fun h : W = xs ∧ A = ys ∧ B = zs => f2 h.2.1)]
      have d2 : SameB A ys false := ⟨decide_eq_false f2⟩
      clear f1 f2
      repeat' (first | refine sts ?_ | refine And.intro ?_ ?_ | (intro e; exfalso; omega) | (intro e; subst e) | intro _)
      exact rt1 () rfl
  · rw [decide_eq_false (fun h : W = xs ∧ A = ys ∧ B = zs => f1 h.1)]
    have d1 : SameB W xs false := ⟨decide_eq_false f1⟩
    clear f1
    repeat' (first | refine sts ?_ | refine And.intro ?_ ?_ | (intro e; exfalso; omega) | (intro e; subst e) | intro _)
    exact rt1 () rfl⟩
instance tyl_out : Known Tryz.prog 24 (∀ (z : Int), SpecH Tryz.prog 24 #[.int .u32 z] [] (fun _ : Unit => .agg #[.bool false, .bool true, .int .u32 z]) (fun _ => [])) := ⟨fun z => by
  refine spec_of Tryz.func24 rfl Tryz.ntmps24 rfl [(0, _)] rfl ?_; intro base F l0 hl0; (try simp only [List.cons_append] at hl0); (try simp only [List.nil_append] at hl0); subst hl0
  repeat' (first | refine sts ?_ | refine And.intro ?_ ?_ | (intro e; exfalso; omega) | (intro e; subst e) | intro _)
  exact ra1 () rfl⟩
theorem tyl_usesC : Known Tryz.prog 23 (∀ (p size most lim w : Nat) (seed : BitVec 64) (W A B : List Nat) (m : Mem) (xk : Int) (k : Nat) [NatI xk k] (W' A' B' : List Nat) (m' : Mem) (h b : Bool) (xo : Int) (o : Nat) [NatI xo o], UseT3 size most lim w seed W A B m k W' A' B' m' h b o → k < 4294967296 → SpecH Tryz.prog 23 #[.pointer (some ⟨p, 0, none⟩), .int .u32 xk, .agg #[.bool h, .bool b, .int .u32 xo]] [TinyAt p size most lim w seed W A B m] (fun _ : Unit => .bool true) (fun _ => [TinyAt p size most lim w seed W' A' B' m'])) := ⟨fun p size most lim w seed W A B m xk k _ W' A' B' m' h b xo o _ u hk => by
  have h := tyl_uses.out p size most lim w seed W A B m xk k h b xo o hk
  rw [u.m, u.st, decide_eq_true ⟨u.h, u.b, u.o⟩] at h
  exact h⟩
theorem tyl_dropC : Known Tryz.prog 14 (∀ (p size most lim w : Nat) (seed : BitVec 64) (W A B : List Nat) (m : Mem) (xk : Int) (k : Nat) [NatI xk k] (W' A' B' : List Nat) (b : Bool), DropTo W A B k W' A' B' b → SpecH Tryz.prog 14 #[.pointer (some ⟨p, 0, none⟩), .int .u32 xk] [TinyAt p size most lim w seed W A B m] (fun _ : Unit => .tuple #[.bool b, .int .i64 0]) (fun _ => [TinyAt p size most lim w seed W' A' B' m])) := ⟨fun p size most lim w seed W A B m xk k _ W' A' B' b u => by
  have h := ty_drop.out p size most lim w seed W A B m xk k
  rwa [u.w, u.a, u.t, u.b] at h⟩
theorem tyl_guessC : Known Tryz.prog 12 (∀ (p size most lim w : Nat) (seed : BitVec 64) (W A B : List Nat) (m : Mem) (xk : Int) (k : Nat) [NatI xk k] (g : Nat), GuessTo w seed m k g → k < 4294967296 → SpecH Tryz.prog 12 #[.pointer (some ⟨p, 0, none⟩), .int .u32 xk] [TinyAt p size most lim w seed W A B m] (fun _ : Unit => .int .i64 (g : Nat)) (fun _ => [TinyAt p size most lim w seed W A B m])) := ⟨fun p size most lim w seed W A B m xk k _ g u hk => by
  have h := ty_guess.out p size most lim w seed W A B m xk k hk
  rwa [u.out] at h⟩
end Go.Proofs.YtdpiglociolagaaGreat

/- The laws of tiny, walked: the examples of the chapter. -/
namespace Go.Ty
open Go.Lk Go.Sl Go.Proofs.YtdpiglociolagaaGreat
def tn (m : Mem) (k : Nat) : Mem := m.note 30 16 (sumB 0#64 (txt k))
def tm0 : Mem := Mem.new 16 64
def tm1 : Mem := tn tm0 0
def tm2 : Mem := tn tm1 1
def tm3 : Mem := tn tm2 0
def tm4 : Mem := tn tm3 2
def tm5 : Mem := tn tm4 3
def tm6 : Mem := tn tm5 2
def tm7 : Mem := tn tm6 4
def tm8 : Mem := tn tm7 5
def tg (m : Mem) (k : Nat) : Nat := m.guess 16 (sumB 0#64 (txt k))
theorem tg_facts : tg tm5 2 = 1 ∧ tg tm5 1 = 1 ∧ tg tm6 3 = 1 ∧ tg tm6 1 = 1 ∧ tg tm6 2 = 2 ∧ tg tm7 2 = 2 ∧ tg tm7 1 = 1 := by decide +kernel
theorem tn_def {m : Mem} {k : Nat} : m.note (10 * 3) 16 (sumB 0#64 (txt k)) = tn m k := rfl
theorem tw5 {g : Nat → Nat} (h : g 2 ≤ g 1) : useW 3 1 1 g [2] [1] [0] 3 = ⟨[3], [1], [0]⟩ ∧ useOut 3 1 g [2] [1] [0] 3 = 2 :=
  ⟨show (if g 2 ≤ g 1 then (⟨[3], [1], [0]⟩ : St) else _) = _ from if_pos h, show (if g 2 ≤ g 1 then 2 else _) = _ from if_pos h⟩
theorem tw6 {g : Nat → Nat} (h : g 3 ≤ g 1) : useW 3 1 1 g [3] [1] [0] 2 = ⟨[2], [1], [0]⟩ ∧ useOut 3 1 g [3] [1] [0] 2 = 3 :=
  ⟨show (if g 3 ≤ g 1 then (⟨[2], [1], [0]⟩ : St) else _) = _ from if_pos h, show (if g 3 ≤ g 1 then 3 else _) = _ from if_pos h⟩
theorem tw7 {g : Nat → Nat} (h : ¬ g 2 ≤ g 1) : useW 3 1 1 g [2] [1] [0] 4 = ⟨[4], [2], [0]⟩ ∧ useOut 3 1 g [2] [1] [0] 4 = 1 :=
  ⟨show (if g 2 ≤ g 1 then _ else (⟨[4], [2], [0]⟩ : St)) = _ from if_neg h, show (if g 2 ≤ g 1 then _ else 1) = _ from if_neg h⟩
theorem tu1 : UseT3 3 1 1 16 0#64 [] [] [] tm0 0 [0] [] [] tm1 false false 0 := ⟨tn_def, rfl, rfl, rfl, rfl⟩
theorem tu2 : UseT3 3 1 1 16 0#64 [0] [] [] tm1 1 [1] [0] [] tm2 false false 0 := ⟨tn_def, rfl, rfl, rfl, rfl⟩
theorem tu3 : UseT3 3 1 1 16 0#64 [1] [0] [] tm2 0 [1] [] [0] tm3 true false 0 := ⟨tn_def, rfl, rfl, rfl, rfl⟩
theorem tu4 : UseT3 3 1 1 16 0#64 [1] [] [0] tm3 2 [2] [1] [0] tm4 false false 0 := ⟨tn_def, rfl, rfl, rfl, rfl⟩
theorem tu5 : UseT3 3 1 1 16 0#64 [2] [1] [0] tm4 3 [3] [1] [0] tm5 false true 2 := by
  have h := tw5 (g := fun x => tm5.guess 16 (sumB 0#64 (txt x))) (by have := tg_facts; show tg tm5 2 ≤ tg tm5 1; omega)
  exact ⟨tn_def, h.1, rfl, rfl, h.2⟩
theorem tu6 : UseT3 3 1 1 16 0#64 [3] [1] [0] tm5 2 [2] [1] [0] tm6 false true 3 := by
  have h := tw6 (g := fun x => tm6.guess 16 (sumB 0#64 (txt x))) (by have := tg_facts; show tg tm6 3 ≤ tg tm6 1; omega)
  exact ⟨tn_def, h.1, rfl, rfl, h.2⟩
theorem tu7 : UseT3 3 1 1 16 0#64 [2] [1] [0] tm6 4 [4] [2] [0] tm7 false true 1 := by
  have h := tw7 (g := fun x => tm7.guess 16 (sumB 0#64 (txt x))) (by have := tg_facts; show ¬ tg tm7 2 ≤ tg tm7 1; omega)
  exact ⟨tn_def, h.1, rfl, rfl, h.2⟩
theorem tu8 : UseT3 3 1 1 16 0#64 [4] [2] [] tm7 5 [5] [4, 2] [] tm8 false false 0 := ⟨tn_def, rfl, rfl, rfl, rfl⟩
theorem tat1 : atL 16 3 = 16 := atL_no (by decide)
theorem tat2 : atL 64 (8 * 3) = 64 := atL_no (by decide)
end Go.Ty
namespace Go.Proofs.YtdpiglociolagaaGreat
open Go.Lk Go.Sl Go.Gh Go.Ty
attribute [local irreducible] TK TL TC Th Bk Nx fnPost WA TQ OpQ OpN SpecH Rd Ent IterH RoundH Rb Rp fnPostM
attribute [local irreducible] Ty.shS Ty.sumB Ty.plS Ty.at64 Ty.cAdd Ty.plB Ty.bA Ty.bS Ty.hasB Ty.addB Ty.Mem.note Ty.Mem.guess Ty.adN Ty.useW Ty.useHit Ty.useLeft Ty.useOut Ty.tm0 Ty.tm1 Ty.tm2 Ty.tm3 Ty.tm4 Ty.tm5 Ty.tm6 Ty.tm7 Ty.tm8
theorem tyl_newK : Known Tryz.prog 16 (SpecH Tryz.prog 16 #[.int .i64 3, .int .i64 1, .int .i64 50, .int .u64 0] [] (fun p : Nat => .tuple #[.pointer (some ⟨p, 0, none⟩), .int .i64 0]) (fun p => [TinyAt p 3 1 1 16 0#64 [] [] [] tm0])) := ⟨by
  have h := ty_new.out 3 3 1 1 50 50 0 0#64 (by omega) (by omega) (by omega) (by omega) (by omega)
  rw [tat1, tat2] at h
  unfold tm0
  exact h⟩
set_option maxRecDepth 20000 in
set_option maxHeartbeats 16000000 in
instance tyl_known : Known Tryz.prog 9 (SpecH Tryz.prog 9 #[] [] (fun _ : Unit => .bool true) (fun _ => [])) := ⟨by
  refine spec_of Tryz.func9 rfl Tryz.ntmps9 rfl [] rfl ?_; intro base F l0 hl0; (try simp only [List.cons_append] at hl0); (try simp only [List.nil_append] at hl0); subst hl0
  have u1 := tu1
  have u2 := tu2
  have u3 := tu3
  have u4 := tu4
  have u5 := tu5
  have u6 := tu6
  have u7 := tu7
  have u8 := tu8
  have g1 : GuessTo 16 0#64 tm6 2 2 := ⟨tg_facts.2.2.2.2.1⟩
  have g2 : GuessTo 16 0#64 tm6 3 1 := ⟨tg_facts.2.2.1⟩
  have d1 : DropTo [4] [2] [0] 0 [4] [2] [] true := ⟨rfl, rfl, rfl, rfl⟩
  have d2 : DropTo [4] [2] [] 0 [4] [2] [] false := ⟨rfl, rfl, rfl, rfl⟩
  haveI := tyl_newK
  haveI := tyl_usesC
  haveI := tyl_dropC
  haveI := tyl_guessC
  repeat' (first | refine stsD ?_ | refine And.intro ?_ ?_ | (intro e; subst e) | intro _)
  haveI : Width (fun i : Nat => ([.int .i64 (([1, 3, 3, 3, 1025] : List Int).getD i 0), .int .i64 (([1, 0, 3, 1, 1] : List Int).getD i 0), .int .i64 (([0, 0, 0, 100, 0] : List Int).getD i 0)] : List Value)) 3 := ⟨fun _ => rfl⟩
  haveI : Idx [.int .i64 1, .int .i64 1, .int .i64 0, .int .i64 3, .int .i64 0, .int .i64 0, .int .i64 3, .int .i64 3, .int .i64 0, .int .i64 3, .int .i64 1, .int .i64 100, .int .i64 1025, .int .i64 1, .int .i64 0] 3 5 (fun i => [.int .i64 (([1, 3, 3, 3, 1025] : List Int).getD i 0), .int .i64 (([1, 0, 3, 1, 1] : List Int).getD i 0), .int .i64 (([0, 0, 0, 100, 0] : List Int).getD i 0)]) := show Idx (rows 5 fun i => [.int .i64 (([1, 3, 3, 3, 1025] : List Int).getD i 0), .int .i64 (([1, 0, 3, 1, 1] : List Int).getD i 0), .int .i64 (([0, 0, 0, 100, 0] : List Int).getD i 0)]) 3 5 (fun i => [.int .i64 (([1, 3, 3, 3, 1025] : List Int).getD i 0), .int .i64 (([1, 0, 3, 1, 1] : List Int).getD i 0), .int .i64 (([0, 0, 0, 100, 0] : List Int).getD i 0)]) from inferInstance
  have hb : ∀ i, i < 5 → ([1, 3, 3, 3, 1025] : List Int).getD i 0 < 2 ∨ 1024 < ([1, 3, 3, 3, 1025] : List Int).getD i 0 ∨ ([1, 0, 3, 1, 1] : List Int).getD i 0 < 1 ∨ ([1, 3, 3, 3, 1025] : List Int).getD i 0 ≤ ([1, 0, 3, 1, 1] : List Int).getD i 0 ∨ ([0, 0, 0, 100, 0] : List Int).getD i 0 < 0 ∨ 99 < ([0, 0, 0, 100, 0] : List Int).getD i 0 := by decide
  refine tc_lp (ι := {i : Nat // i ≤ 5}) [139] (fun e i => (139, .int .i64 (i.1 : Nat)) :: e) (fun _ => _) (fun i => 5 - i.1) ⟨0, by omega⟩ ?_ (hl := Ent.refl _)
  rintro K ⟨i, hi⟩ hK
  dsimp only
  by_cases hlt : i < 5
  · repeat' (first | refine sts ?_ | refine And.intro ?_ ?_ | (intro e; exfalso; omega) | (intro e; subst e) | intro _)
    refine call (ty_new_bad _ _ _ _ (hb i hlt)) ?_
    repeat' (first | refine sts ?_ | refine And.intro ?_ ?_ | (intro e; exfalso; omega) | (intro e; subst e) | intro _)
    exact again hK ⟨i + 1, by omega⟩
  · obtain rfl : i = 5 := by omega
    repeat' (first | refine sts ?_ | refine And.intro ?_ ?_ | (intro e; exfalso; omega) | (intro e; subst e) | intro _)
    exact rt1 () rfl⟩
end Go.Proofs.YtdpiglociolagaaGreat

/- The laws of tiny, walked: a cache that looks like its reference. -/
namespace Go.Proofs.YtdpiglociolagaaGreat
open Go.Lk Go.Sl Go.Gh Go.Ty
attribute [local irreducible] TK TL TC Th Bk Nx fnPost WA TQ OpQ OpN SpecH Rd Ent IterH RoundH Rb Rp fnPostM
attribute [local irreducible] Ty.shS Ty.sumB Ty.plS Ty.at64 Ty.cAdd Ty.plB Ty.bA Ty.bS Ty.hasB Ty.addB Ty.Mem.note Ty.Mem.guess Ty.adN Ty.useW Ty.useHit Ty.useLeft Ty.useOut
end Go.Proofs.YtdpiglociolagaaGreat
