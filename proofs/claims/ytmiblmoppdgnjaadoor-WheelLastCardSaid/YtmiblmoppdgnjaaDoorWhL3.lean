/- The laws of wheel, walked: a call. -/
import Derived.Test.YtmiblmoppdgnjaaDoorWhL1
namespace Go.Wh
open Go.Lk Go.Sl Go.Lf
/-- The slots after a call. -/
def actM (m : List It) (k : Int) (s : Nat) (b : Int) : List It := if k = 0 then whM m s b else if k = 1 then wo m s else if k = 2 then takM m b else m
end Go.Wh
namespace Go.Proofs.YtmiblmoppdgnjaaDoor
open Go.Lk Go.Sl Go.Lf Go.Wh
attribute [local irreducible] TK TL TC Th Bk Nx fnPost WA TQ OpQ OpN SpecH Rd Ent IterH RoundH Rb Rp fnPostM
attribute [local irreducible] Lf.wo Lf.cntOf Wh.wob Wh.lstM Wh.takM Lf.grp Wh.nxO Wh.nxE Wh.slotE Wh.lstE Wh.whE Wh.whM
theorem whl_removesT : Known Tryd.prog 18 (∀ (p : Nat) (m : List It) (xs : Int) (s : Nat) [NatI xs s], s < 4294967296 → SpecH Tryd.prog 18 #[.pointer (some ⟨p, 0, none⟩), .int .u32 xs, .int .i64 (cntOf m s : Nat), .int .i64 (slotE m s)] [WheelAt p m] (fun _ : Unit => .bool true) (fun _ => [WheelAt p (wo m s)])) := ⟨fun p m xs s _ hs => by
  have h := whl_removes.out p m xs s (cntOf m s : Nat) (slotE m s) hs
  rwa [decide_eq_true ⟨rfl, rfl⟩] at h⟩
theorem whl_takesT : Known Tryd.prog 15 (∀ (p : Nat) (m : List It) (b : Int) (a2 : Option Addr) (c2 : Nat), (lstM m b).length ≤ 4194304 → SpecH Tryd.prog 15 #[.pointer (some ⟨p, 0, none⟩), .int .i64 b, .slice a2 (lstM m b).length c2, .int .i64 (lstE b)] [WheelAt p m, RoS 1 a2 (lstM m b).length c2 (u32s (lstM m b))] (fun _ : Unit => .bool true) (fun _ => [WheelAt p (takM m b)])) := ⟨fun p m b a2 c2 hl => by
  have h := whl_takes.out p m b a2 (lstM m b).length c2 (u32s (lstM m b)) (lstM m b) (lstE b) ⟨rfl⟩ rfl hl
  rwa [decide_eq_true ⟨rfl, rfl⟩] at h⟩
set_option maxHeartbeats 4000000 in
instance whl_step : Known Tryd.prog 25 (∀ (p : Nat) (m : List It) (a : Option Addr) (n c : Nat) (k : Int) (xs : Int) (s : Nat) [NatI xs s] (b : Int), n = m.length → n ≤ 1024 → s < 4294967296 → SpecH Tryd.prog 25 #[.pointer (some ⟨p, 0, none⟩), .slice a n c, .agg #[.int .i64 k, .int .u32 xs, .int .i64 b]] [WheelAt p m, RoS 2 a n c (itv m)] (fun q : Nat × Option Addr × Nat => .tuple #[.pointer (some ⟨q.1, 0, none⟩), .slice q.2.1 (actM m k s b).length q.2.2, .bool true]) (fun q => [WheelAt q.1 (actM m k s b), RoS 2 q.2.1 (actM m k s b).length q.2.2 (itv (actM m k s b))])) := ⟨fun p m a n c k xs s _ b hn hx hs => by
  obtain rfl : xs = (s : Int) := NatI.out
  subst hn
  refine spec_of Tryd.func25 rfl Tryd.ntmps25 rfl [(0, _), (1, _), (2, _)] rfl ?_; intro base F l0 hl0; (try simp only [List.cons_append] at hl0); (try simp only [List.nil_append] at hl0); subst hl0
  refine WheelAt.factsC (p := p) (m := m) (fun h0 => ?_) (by (repeat (first | (with_reducible exact Rem.here _ _) | (with_reducible apply Rem.there) | fail)); done)
  have hll := lstM_le (m := m) (b := b) h0
  obtain ⟨N, o, hN⟩ := h0
  replace o := o.up hN
  haveI := whl_removesT
  haveI := whl_takesT
  by_cases h1 : k = 0
  · have e1 : actM m k s b = whM m s b := if_pos h1
    rw [e1]
    repeat' (first | refine stz ?_ | refine And.intro ?_ ?_ | (intro e; exfalso; omega) | (intro e; subst e) | intro _)
    rename_i b5 a5 c5
    exact rt3 (p, a5, c5) rfl
  by_cases h2 : k = 1
  · have e1 : actM m k s b = wo m s := by unfold actM; rw [if_neg h1, if_pos h2]
    rw [e1]
    repeat' (first | refine stz ?_ | refine And.intro ?_ ?_ | (intro e; exfalso; omega) | (intro e; subst e) | intro _)
    rename_i b5 a5 c5
    exact rt3 (p, a5, c5) rfl
  by_cases h3 : k = 2
  · have e1 : actM m k s b = takM m b := by unfold actM; rw [if_neg h1, if_neg h2, if_pos h3]
    rw [e1]
    repeat' (first | refine stz ?_ | refine And.intro ?_ ?_ | (intro e; exfalso; omega) | (intro e; subst e) | intro _)
    rename_i b5 x6 x7
    exact rt3 (p, x6.1, x6.2) rfl
  · have e1 : actM m k s b = m := by unfold actM; rw [if_neg h1, if_neg h2, if_neg h3]
    rw [e1]
    repeat' (first | refine stz ?_ | refine And.intro ?_ ?_ | (intro e; exfalso; omega) | (intro e; subst e) | intro _)
    rename_i b5 x a5 c5
    exact rt3 (x, a, c) rfl⟩
end Go.Proofs.YtmiblmoppdgnjaaDoor
