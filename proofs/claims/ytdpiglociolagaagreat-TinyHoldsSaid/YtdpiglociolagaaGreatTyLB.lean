/- TyLB: TyL4, TyL5. -/
import Derived.Test.YtdpiglociolagaaGreatTyLA
import Derived.Test.YtdpiglociolagaaGreatSlD
import Derived.Test.YtdpiglociolagaaGreatSlMapN
/- The laws of tiny, walked: any calls. -/
namespace Go.Ty
open Go.Sl
structure Pl where
  p : Nat
  l : S3
  r : S4
  f : Option Addr × Nat
  ad : Nat
  s : St
  m : Mem
end Go.Ty
namespace Go.Proofs.YtdpiglociolagaaGreat
open Go.Lk Go.Sl Go.Gh Go.Ty
theorem atBlk (id : Nat) {r0 : Option Nat} {P : Program} {base : World} {n : Nat} {ds : List Deferred} {Q : Exit → Act → World → Prop} {env : Env} {l : List HP} {c : Code} (h : TC r0 P base n ds (.block id c) Q env l) : TC r0 P base n ds (.block id c) Q env l := h
attribute [local irreducible] TK TL TC Th Bk Nx fnPost WA TQ OpQ OpN SpecH Rd Ent IterH RoundH Rb Rp fnPostM
attribute [local irreducible] Ty.shS Ty.sumB Ty.plS Ty.at64 Ty.cAdd Ty.plB Ty.bA Ty.bS Ty.hasB Ty.addB Ty.Mem.note Ty.Mem.guess Ty.adN Ty.useW Ty.useHit Ty.useLeft Ty.useOut
instance (Z : Nat → Int × Nat) : Width (fun i => ([.int .i64 (Z i).1, .int .u32 ((Z i).2 : Nat)] : List Value)) 2 := ⟨fun _ => rfl⟩
end Go.Proofs.YtdpiglociolagaaGreat

/- The laws of tiny, walked: a cache that is made; a new one. -/
namespace Go.Sl
theorem SpecH.post {α : Type} {P : Program} {f : FuncId} {args : Array Value} {pre : List HP} {val : α → Value} {post post' : α → List HP} (h : SpecH P f args pre val post) (he : ∀ x, Ent (post x) (post' x)) : SpecH P f args pre val post' := fun base F w hw => by
  refine CallsIn.mono (h base F w hw) ?_
  rintro e w' ⟨x, rfl, hw'⟩
  exact ⟨x, rfl, hw'.ent ((he x).append [F])⟩
end Go.Sl
namespace Go.Proofs.YtdpiglociolagaaGreat
open Go.Lk Go.Sl Go.Gh Go.Ty
attribute [local irreducible] TK TL TC Th Bk Nx fnPost WA TQ OpQ OpN SpecH Rd Ent IterH RoundH Rb Rp fnPostM
attribute [local irreducible] Ty.shS Ty.sumB Ty.plS Ty.at64 Ty.cAdd Ty.plB Ty.bA Ty.bS Ty.hasB Ty.addB Ty.Mem.note Ty.Mem.guess Ty.adN Ty.useW Ty.useHit Ty.useLeft Ty.useOut
instance tyr_newM : Known Tryz.prog 17 (∀ (xs : Int) (size : Nat) [NatI xs size] (xm : Int) (most : Nat) [NatI xm most] (xq : Int) (prot : Nat) [NatI xq prot] (x : Int) (seed : BitVec 64) [BV x seed], 2 ≤ size → size ≤ 1024 → 1 ≤ most → most < size → prot ≤ 99 → SpecH Tryz.prog 17 #[.int .i64 xs, .int .i64 xm, .int .i64 xq, .int .u64 x] [] (fun q : (Nat × Nat × Nat × Nat) × Nat => .tuple #[.agg #[.int .i64 (size : Nat), .int .i64 (most : Nat), .int .i64 ((prot * (size - most) / 100) : Nat), .int .i64 ((Mem.new (atL 16 size) (atL 64 (8 * size))).req : Nat), .slice none 0 0, .slice none 0 0, .slice none 0 0, .int .i64 ((atL 16 size) : Nat), .int .i64 0, .int .i64 0, .int .u64 (seed.toNat : Nat), .slice (some ⟨q.1.1, 0, none⟩) (atL 16 size) (atL 16 size), .slice (some ⟨q.1.2.1, 0, none⟩) (atL 16 size) (atL 16 size), .slice (some ⟨q.1.2.2.1, 0, none⟩) (atL 16 size) (atL 16 size), .slice (some ⟨q.1.2.2.2, 0, none⟩) (atL 16 size) (atL 16 size), .int .i64 3, .int .u64 (seed.toNat : Nat), .slice (some ⟨q.2, 0, none⟩) (atL 64 (8 * size)) (atL 64 (8 * size)), .int .i64 3, .int .u64 (seed.toNat : Nat), .slice (some ⟨q.2, 0, none⟩) (atL 64 (8 * size)) (atL 64 (8 * size))], .int .i64 0]) (fun q => [RoS 1 (some ⟨q.1.1, 0, none⟩) (atL 16 size) (atL 16 size) (i64n (Mem.new (atL 16 size) (atL 64 (8 * size))).c0), RoS 1 (some ⟨q.1.2.1, 0, none⟩) (atL 16 size) (atL 16 size) (i64n (Mem.new (atL 16 size) (atL 64 (8 * size))).c1), RoS 1 (some ⟨q.1.2.2.1, 0, none⟩) (atL 16 size) (atL 16 size) (i64n (Mem.new (atL 16 size) (atL 64 (8 * size))).c2), RoS 1 (some ⟨q.1.2.2.2, 0, none⟩) (atL 16 size) (atL 16 size) (i64n (Mem.new (atL 16 size) (atL 64 (8 * size))).c3), RoS 1 (some ⟨q.2, 0, none⟩) (atL 64 (8 * size)) (atL 64 (8 * size)) (bls (Mem.new (atL 16 size) (atL 64 (8 * size))).b), RoS 1 (some ⟨q.2, 0, none⟩) (atL 64 (8 * size)) (atL 64 (8 * size)) (bls (List.replicate (atL 64 (8 * size)) false))])) := ⟨fun xs size _ xm most _ xq prot _ x seed _ h1 h2 h3 h4 h5 => by
  obtain rfl : xs = (size : Int) := NatI.out
  obtain rfl : xm = (most : Int) := NatI.out
  obtain rfl : xq = (prot : Int) := NatI.out
  obtain rfl : x = ((seed.toNat : Nat) : Int) := BV.out
  refine (tyr_new.out size size most most prot prot (seed.toNat : Nat) seed h1 h2 h3 h4 h5).post fun q => ?_
  show Ent [RoS 1 (some ⟨q.1.1, 0, none⟩) (atL 16 size) (atL 16 size) (i64n (List.replicate (atL 16 size) 0)), RoS 1 (some ⟨q.1.2.1, 0, none⟩) (atL 16 size) (atL 16 size) (i64n (List.replicate (atL 16 size) 0)), RoS 1 (some ⟨q.1.2.2.1, 0, none⟩) (atL 16 size) (atL 16 size) (i64n (List.replicate (atL 16 size) 0)), RoS 1 (some ⟨q.1.2.2.2, 0, none⟩) (atL 16 size) (atL 16 size) (i64n (List.replicate (atL 16 size) 0)), RoS 1 (some ⟨q.2, 0, none⟩) (atL 64 (8 * size)) (atL 64 (8 * size)) (bls (List.replicate (atL 64 (8 * size)) false))] [RoS 1 (some ⟨q.1.1, 0, none⟩) (atL 16 size) (atL 16 size) (i64n (List.replicate (atL 16 size) 0)), RoS 1 (some ⟨q.1.2.1, 0, none⟩) (atL 16 size) (atL 16 size) (i64n (List.replicate (atL 16 size) 0)), RoS 1 (some ⟨q.1.2.2.1, 0, none⟩) (atL 16 size) (atL 16 size) (i64n (List.replicate (atL 16 size) 0)), RoS 1 (some ⟨q.1.2.2.2, 0, none⟩) (atL 16 size) (atL 16 size) (i64n (List.replicate (atL 16 size) 0)), RoS 1 (some ⟨q.2, 0, none⟩) (atL 64 (8 * size)) (atL 64 (8 * size)) (bls (List.replicate (atL 64 (8 * size)) false)), RoS 1 (some ⟨q.2, 0, none⟩) (atL 64 (8 * size)) (atL 64 (8 * size)) (bls (List.replicate (atL 64 (8 * size)) false))]
  exact en⟩
theorem tyl_made_bad (x y z sd : Int) (h : x < 2 ∨ 1024 < x ∨ y < 1 ∨ x ≤ y ∨ z < 0 ∨ 99 < z) : SpecH Tryz.prog 8 #[.agg #[.int .i64 x, .int .i64 y, .int .i64 z, .int .u64 sd]] [] (fun _ : Unit => .tuple #[.pointer none, .agg #[.int .i64 0, .int .i64 0, .int .i64 0, .int .i64 0, .slice none 0 0, .slice none 0 0, .slice none 0 0, .int .i64 0, .int .i64 0, .int .i64 0, .int .u64 0, .slice none 0 0, .slice none 0 0, .slice none 0 0, .slice none 0 0, .int .i64 0, .int .u64 0, .slice none 0 0, .int .i64 0, .int .u64 0, .slice none 0 0], .bool false]) (fun _ => []) := by
  refine spec_of Tryz.func8 rfl Tryz.ntmps8 rfl [(0, _)] rfl ?_; intro base F l0 hl0; (try simp only [List.cons_append] at hl0); (try simp only [List.nil_append] at hl0); subst hl0
  repeat' (first | ((fail_if_success (refine atCall 17 ?_)); refine sts ?_) | refine And.intro ?_ ?_ | (intro e; exfalso; omega) | (intro e; subst e) | intro _)
  refine call (tyr_new_bad x y z sd h) ?_
  repeat' (first | ((fail_if_success (refine atD ?_)); refine sts ?_) | refine And.intro ?_ ?_ | (intro e; exfalso; omega) | (intro e; subst e) | intro _)
  rename_i b1 b3 b5
  refine drx [obj b3 36 _] ?_; refine tks [0, 1] 2 ?_; (repeat' (first | refine sts ?_ | refine And.intro ?_ ?_ | (intro e; exfalso; omega) | (intro e; subst e) | intro _)); refine hv0 2 fun _ => ?_; refine tks [3] 0 ?_; (repeat' (first | refine sts ?_ | refine And.intro ?_ ?_ | (intro e; exfalso; omega) | (intro e; subst e) | intro _))
  exact ram () rfl
set_option maxHeartbeats 4000000 in
theorem tyl_made_big (size most prot : Nat) (seed : BitVec 64) (h1 : 24 < size) (h2 : size ≤ 1024) (h3 : 1 ≤ most) (h4 : most < size) (h5 : prot ≤ 99) : SpecH Tryz.prog 8 #[.agg #[.int .i64 (size : Nat), .int .i64 (most : Nat), .int .i64 (prot : Nat), .int .u64 (seed.toNat : Nat)]] [] (fun q : (Nat × Nat × Nat × Nat) × Nat × Unit => .tuple #[.pointer none, .agg #[.int .i64 (size : Nat), .int .i64 (most : Nat), .int .i64 ((prot * (size - most) / 100) : Nat), .int .i64 ((Mem.new (atL 16 size) (atL 64 (8 * size))).req : Nat), .slice none 0 0, .slice none 0 0, .slice none 0 0, .int .i64 ((atL 16 size) : Nat), .int .i64 0, .int .i64 0, .int .u64 (seed.toNat : Nat), .slice (some ⟨q.1.1, 0, none⟩) (atL 16 size) (atL 16 size), .slice (some ⟨q.1.2.1, 0, none⟩) (atL 16 size) (atL 16 size), .slice (some ⟨q.1.2.2.1, 0, none⟩) (atL 16 size) (atL 16 size), .slice (some ⟨q.1.2.2.2, 0, none⟩) (atL 16 size) (atL 16 size), .int .i64 3, .int .u64 (seed.toNat : Nat), .slice (some ⟨q.2.1, 0, none⟩) (atL 64 (8 * size)) (atL 64 (8 * size)), .int .i64 3, .int .u64 (seed.toNat : Nat), .slice (some ⟨q.2.1, 0, none⟩) (atL 64 (8 * size)) (atL 64 (8 * size))], .bool false]) (fun _ => []) := by
  refine spec_of Tryz.func8 rfl Tryz.ntmps8 rfl [(0, _)] rfl ?_; intro base F l0 hl0; (try simp only [List.cons_append] at hl0); (try simp only [List.nil_append] at hl0); subst hl0
  repeat' (first | ((fail_if_success (refine atD ?_)); refine sts ?_) | refine And.intro ?_ ?_ | (intro e; exfalso; omega) | (intro e; subst e) | intro _)
  rename_i b1 b3 xa xb b5
  refine drx [obj b3 36 _] ?_; refine tks [0, 1] 2 ?_; (repeat' (first | refine sts ?_ | refine And.intro ?_ ?_ | (intro e; exfalso; omega) | (intro e; subst e) | intro _)); refine hv0 2 fun _ => ?_; refine tks [3] 0 ?_; (repeat' (first | refine sts ?_ | refine And.intro ?_ ?_ | (intro e; exfalso; omega) | (intro e; subst e) | intro _))
  exact ram (xa, xb, ()) rfl
set_option maxHeartbeats 4000000 in
instance tyl_made : Known Tryz.prog 8 (∀ (size most prot : Nat) (seed : BitVec 64), 2 ≤ size → size ≤ 24 → 1 ≤ most → most < size → prot ≤ 99 → SpecH Tryz.prog 8 #[.agg #[.int .i64 (size : Nat), .int .i64 (most : Nat), .int .i64 (prot : Nat), .int .u64 (seed.toNat : Nat)]] [] (fun q : (Nat × Nat × Nat × Nat) × Nat × Nat => .tuple #[.pointer (some ⟨q.2.2, 0, none⟩), .agg #[.int .i64 (size : Nat), .int .i64 (most : Nat), .int .i64 ((prot * (size - most) / 100) : Nat), .int .i64 ((Mem.new (atL 16 size) (atL 64 (8 * size))).req : Nat), .slice none 0 0, .slice none 0 0, .slice none 0 0, .int .i64 ((atL 16 size) : Nat), .int .i64 0, .int .i64 0, .int .u64 (seed.toNat : Nat), .slice (some ⟨q.1.1, 0, none⟩) (atL 16 size) (atL 16 size), .slice (some ⟨q.1.2.1, 0, none⟩) (atL 16 size) (atL 16 size), .slice (some ⟨q.1.2.2.1, 0, none⟩) (atL 16 size) (atL 16 size), .slice (some ⟨q.1.2.2.2, 0, none⟩) (atL 16 size) (atL 16 size), .int .i64 3, .int .u64 (seed.toNat : Nat), .slice (some ⟨q.2.1, 0, none⟩) (atL 64 (8 * size)) (atL 64 (8 * size)), .int .i64 3, .int .u64 (seed.toNat : Nat), .slice (some ⟨q.2.1, 0, none⟩) (atL 64 (8 * size)) (atL 64 (8 * size))], .bool true]) (fun q => [TinyAt q.2.2 size most (prot * (size - most) / 100) (atL 16 size) seed [] [] [] (Mem.new (atL 16 size) (atL 64 (8 * size))), RoS 1 (some ⟨q.1.1, 0, none⟩) (atL 16 size) (atL 16 size) (i64n (Mem.new (atL 16 size) (atL 64 (8 * size))).c0), RoS 1 (some ⟨q.1.2.1, 0, none⟩) (atL 16 size) (atL 16 size) (i64n (Mem.new (atL 16 size) (atL 64 (8 * size))).c1), RoS 1 (some ⟨q.1.2.2.1, 0, none⟩) (atL 16 size) (atL 16 size) (i64n (Mem.new (atL 16 size) (atL 64 (8 * size))).c2), RoS 1 (some ⟨q.1.2.2.2, 0, none⟩) (atL 16 size) (atL 16 size) (i64n (Mem.new (atL 16 size) (atL 64 (8 * size))).c3), RoS 1 (some ⟨q.2.1, 0, none⟩) (atL 64 (8 * size)) (atL 64 (8 * size)) (bls (Mem.new (atL 16 size) (atL 64 (8 * size))).b), RoS 1 (some ⟨q.2.1, 0, none⟩) (atL 64 (8 * size)) (atL 64 (8 * size)) (bls (List.replicate (atL 64 (8 * size)) false))])) := ⟨fun size most prot seed h1 h2 h3 h4 h5 => by
  refine spec_of Tryz.func8 rfl Tryz.ntmps8 rfl [(0, _)] rfl ?_; intro base F l0 hl0; (try simp only [List.cons_append] at hl0); (try simp only [List.nil_append] at hl0); subst hl0
  repeat' (first | ((fail_if_success (refine atD ?_)); refine sts ?_) | refine And.intro ?_ ?_ | (intro e; exfalso; omega) | (intro e; subst e) | intro _)
  rename_i b1 b3 xa xb b5 p
  refine drx [obj b3 36 _] ?_
  refine tks [0, 1, 2] 2 ?_; repeat' (first | refine sts ?_ | refine And.intro ?_ ?_ | (intro e; exfalso; omega) | (intro e; subst e) | intro _)
  refine hv0 3 fun _ => ?_
  refine tks [4] 0 ?_; repeat' (first | refine sts ?_ | refine And.intro ?_ ?_ | (intro e; exfalso; omega) | (intro e; subst e) | intro _)
  exact ram (xa, xb, p) rfl⟩
end Go.Proofs.YtdpiglociolagaaGreat
