/- wheel, walked: marks. -/
import Derived.Test.YtmiblmoppdgnjaaDoorWhMarks
import Derived.Test.YtmiblmoppdgnjaaDoorLkA
import Derived.Test.YtmiblmoppdgnjaaDoorLkC
import Derived.Test.YtmiblmoppdgnjaaDoorSlBits
import Derived.Test.YtmiblmoppdgnjaaDoorSlEnd2
namespace Go.Wh
open Go.Lk Go.Sl
/-- The table of math/bits, in a block that no one writes. -/
def Tab64 : HP := fun h => ∃ (c : Array Value) (T : TypeId) (fr : Nat × Nat), ro 0 (.cells c T fr) h ∧ ∀ (j k : Nat), deb[j]? = some k → c[j]? = some (.int .u8 (k : Nat))
instance : Pers Tab64 := ⟨fun h ⟨_, _, _, hr, _⟩ => (pers_ro 0 _).out h hr⟩
theorem rd_tab {l r : List HP} {j k : Nat} (hr : Rem l Tab64 r) (hj : deb[j]? = some k) : Rd l ⟨0, 0 + j * 1, none⟩ [.int .u8 (k : Nat)] := fun x hx => ⟨rfl, fun i v hv => by
  obtain ⟨p, q, _, rfl, ⟨c, T, fr, hp, hc⟩, _⟩ := hr.out hx
  cases i with
  | zero =>
    obtain rfl := Option.some.inj hv
    refine ⟨c, T, fr, false, joinH_left (by rw [hp]; simp), ?_⟩
    have := hc j k hj
    simpa using this
  | succ i => simp at hv⟩
end Go.Wh
namespace Go.Proofs.YtmiblmoppdgnjaaDoor
open Go.Lk Go.Sl Go.Wh
attribute [local irreducible] TK TL TC Th Bk Nx fnPost WA TQ OpQ OpN SpecH Rd Ent IterH RoundH Rb Rp fnPostM
attribute [local irreducible] Fld.addE Fld.addF Fld.befE Fld.befF Fld.inE Fld.remF Fld.first Fld.last Fld.next Fld.prev Fld.ofR Fld.listOf Fld.joinE Fld.joinF renE renG Fld.at Fld.set Fld.place
instance : BV 285870213051353865 285870213051353865#64 := ⟨by decide⟩
instance tz_spec64 : Known Tryd.prog 52 (∀ (a : BitVec 64), a ≠ 0#64 → SpecH Tryd.prog 52 #[.int .u64 (a.toNat : Nat)] [Tab64] (fun _ : Unit => .int .i64 (tz a : Nat)) (fun _ => [])) := ⟨fun a ha => by
  have h0 : a.toNat ≠ 0 := fun h => ha (BitVec.eq_of_toNat_eq (by simpa using h))
  have hd := deb_tz ha
  have htz := (tz_spec ha).1
  have hlt : (((a &&& -a) * 285870213051353865#64) >>> 58).toNat < 64 := by
    have h1 := (List.getElem?_eq_some_iff.1 hd).1
    exact h1
  refine spec_of Tryd.func52 rfl Tryd.ntmps52 rfl [(0, _)] rfl ?_; intro base F l0 hl0; (try simp only [List.cons_append] at hl0); (try simp only [List.nil_append] at hl0); subst hl0
  repeat' (first | refine stz ?_ | refine And.intro ?_ ?_ | (intro e; exfalso; omega) | (intro e; subst e) | intro _)
  refine tl_q (opq_load (by (first | exact want_none rfl | exact want_yes rfl rfl rfl rfl rfl | fail)) rfl (rd_tab (by (repeat (first | (with_reducible exact Rem.here _ _) | (with_reducible apply Rem.there) | fail)); done) hd)) rfl (Nat.lt_of_ble_eq rfl) ?_
  repeat' (first | refine stz ?_ | refine And.intro ?_ ?_ | (intro e; exfalso; omega) | (intro e; subst e) | intro _)
  exact rt1 () rfl⟩
theorem wd_case {f : Nat → BitVec 64} {w : Nat} {v : BitVec 64} : updW f w v w = v := by unfold updW; exact if_pos rfl
theorem wd_other {f : Nat → BitVec 64} {w k : Nat} {v : BitVec 64} (h : k ≠ w) : updW f w v k = f k := by unfold updW; exact if_neg h
set_option maxHeartbeats 4000000 in
instance mk_set_spec : Known Tryd.prog 34 (∀ (p : Nat) (c0 c5 : Value) (f : Nat → BitVec 64) (xb : Int) (b : Nat) [NatI xb b], b < 256 → SpecH Tryd.prog 34 #[.pointer (some ⟨p, 1, none⟩), .int .i64 xb] [obj p 63 [c0, .int .u64 ((f 0).toNat : Nat), .int .u64 ((f 1).toNat : Nat), .int .u64 ((f 2).toNat : Nat), .int .u64 ((f 3).toNat : Nat), c5]] (fun _ : Unit => .tuple #[]) (fun _ => [let g := updW f (b / 64) (f (b / 64) ||| (1#64 <<< (b % 64))); obj p 63 [c0, .int .u64 ((g 0).toNat : Nat), .int .u64 ((g 1).toNat : Nat), .int .u64 ((g 2).toNat : Nat), .int .u64 ((g 3).toNat : Nat), c5]])) := ⟨fun p c0 c5 f xb b _ hb => by
  obtain rfl : xb = (b : Int) := NatI.out
  dsimp only
  haveI : NatI ((b : Int) % 64) (b % 64) := ⟨by omega⟩
  have hm : b % 64 < 64 := Nat.mod_lt _ (by decide)
  obtain e | e | e | e : b / 64 = 0 ∨ b / 64 = 1 ∨ b / 64 = 2 ∨ b / 64 = 3 := by omega
  · rw [e, wd_case, wd_other (by decide), wd_other (by decide), wd_other (by decide)]
    haveI : NatI ((b : Int) / 64) 0 := ⟨by omega⟩
    refine spec_of Tryd.func34 rfl Tryd.ntmps34 rfl [(0, _), (1, _)] rfl ?_; intro base F l0 hl0; (try simp only [List.cons_append] at hl0); (try simp only [List.nil_append] at hl0); subst hl0
    refine tail 12 ?_
    repeat' (first | refine stz ?_ | refine And.intro ?_ ?_ | (intro e; exfalso; omega) | (intro e; subst e) | intro _)
    exact re0 () rfl
  · rw [e, wd_other (by decide), wd_case, wd_other (by decide), wd_other (by decide)]
    haveI : NatI ((b : Int) / 64) 1 := ⟨by omega⟩
    refine spec_of Tryd.func34 rfl Tryd.ntmps34 rfl [(0, _), (1, _)] rfl ?_; intro base F l0 hl0; (try simp only [List.cons_append] at hl0); (try simp only [List.nil_append] at hl0); subst hl0
    refine tail 12 ?_
    repeat' (first | refine stz ?_ | refine And.intro ?_ ?_ | (intro e; exfalso; omega) | (intro e; subst e) | intro _)
    exact re0 () rfl
  · rw [e, wd_other (by decide), wd_other (by decide), wd_case, wd_other (by decide)]
    haveI : NatI ((b : Int) / 64) 2 := ⟨by omega⟩
    refine spec_of Tryd.func34 rfl Tryd.ntmps34 rfl [(0, _), (1, _)] rfl ?_; intro base F l0 hl0; (try simp only [List.cons_append] at hl0); (try simp only [List.nil_append] at hl0); subst hl0
    refine tail 12 ?_
    repeat' (first | refine stz ?_ | refine And.intro ?_ ?_ | (intro e; exfalso; omega) | (intro e; subst e) | intro _)
    exact re0 () rfl
  · rw [e, wd_other (by decide), wd_other (by decide), wd_other (by decide), wd_case]
    haveI : NatI ((b : Int) / 64) 3 := ⟨by omega⟩
    refine spec_of Tryd.func34 rfl Tryd.ntmps34 rfl [(0, _), (1, _)] rfl ?_; intro base F l0 hl0; (try simp only [List.cons_append] at hl0); (try simp only [List.nil_append] at hl0); subst hl0
    refine tail 12 ?_
    repeat' (first | refine stz ?_ | refine And.intro ?_ ?_ | (intro e; exfalso; omega) | (intro e; subst e) | intro _)
    exact re0 () rfl⟩
set_option maxHeartbeats 4000000 in
instance mk_clear_spec : Known Tryd.prog 51 (∀ (p : Nat) (c0 c5 : Value) (f : Nat → BitVec 64) (xb : Int) (b : Nat) [NatI xb b], b < 256 → SpecH Tryd.prog 51 #[.pointer (some ⟨p, 1, none⟩), .int .i64 xb] [obj p 63 [c0, .int .u64 ((f 0).toNat : Nat), .int .u64 ((f 1).toNat : Nat), .int .u64 ((f 2).toNat : Nat), .int .u64 ((f 3).toNat : Nat), c5]] (fun _ : Unit => .tuple #[]) (fun _ => [let g := updW f (b / 64) (f (b / 64) &&& ~~~(1#64 <<< (b % 64))); obj p 63 [c0, .int .u64 ((g 0).toNat : Nat), .int .u64 ((g 1).toNat : Nat), .int .u64 ((g 2).toNat : Nat), .int .u64 ((g 3).toNat : Nat), c5]])) := ⟨fun p c0 c5 f xb b _ hb => by
  obtain rfl : xb = (b : Int) := NatI.out
  dsimp only
  haveI : NatI ((b : Int) % 64) (b % 64) := ⟨by omega⟩
  have hm : b % 64 < 64 := Nat.mod_lt _ (by decide)
  obtain e | e | e | e : b / 64 = 0 ∨ b / 64 = 1 ∨ b / 64 = 2 ∨ b / 64 = 3 := by omega
  · rw [e, wd_case, wd_other (by decide), wd_other (by decide), wd_other (by decide)]
    haveI : NatI ((b : Int) / 64) 0 := ⟨by omega⟩
    refine spec_of Tryd.func51 rfl Tryd.ntmps51 rfl [(0, _), (1, _)] rfl ?_; intro base F l0 hl0; (try simp only [List.cons_append] at hl0); (try simp only [List.nil_append] at hl0); subst hl0
    refine tail 12 ?_
    repeat' (first | refine stz ?_ | refine And.intro ?_ ?_ | (intro e; exfalso; omega) | (intro e; subst e) | intro _)
    exact re0 () rfl
  · rw [e, wd_other (by decide), wd_case, wd_other (by decide), wd_other (by decide)]
    haveI : NatI ((b : Int) / 64) 1 := ⟨by omega⟩
    refine spec_of Tryd.func51 rfl Tryd.ntmps51 rfl [(0, _), (1, _)] rfl ?_; intro base F l0 hl0; (try simp only [List.cons_append] at hl0); (try simp only [List.nil_append] at hl0); subst hl0
    refine tail 12 ?_
    repeat' (first | refine stz ?_ | refine And.intro ?_ ?_ | (intro e; exfalso; omega) | (intro e; subst e) | intro _)
    exact re0 () rfl
  · rw [e, wd_other (by decide), wd_other (by decide), wd_case, wd_other (by decide)]
    haveI : NatI ((b : Int) / 64) 2 := ⟨by omega⟩
    refine spec_of Tryd.func51 rfl Tryd.ntmps51 rfl [(0, _), (1, _)] rfl ?_; intro base F l0 hl0; (try simp only [List.cons_append] at hl0); (try simp only [List.nil_append] at hl0); subst hl0
    refine tail 12 ?_
    repeat' (first | refine stz ?_ | refine And.intro ?_ ?_ | (intro e; exfalso; omega) | (intro e; subst e) | intro _)
    exact re0 () rfl
  · rw [e, wd_other (by decide), wd_other (by decide), wd_other (by decide), wd_case]
    haveI : NatI ((b : Int) / 64) 3 := ⟨by omega⟩
    refine spec_of Tryd.func51 rfl Tryd.ntmps51 rfl [(0, _), (1, _)] rfl ?_; intro base F l0 hl0; (try simp only [List.cons_append] at hl0); (try simp only [List.nil_append] at hl0); subst hl0
    refine tail 12 ?_
    repeat' (first | refine stz ?_ | refine And.intro ?_ ?_ | (intro e; exfalso; omega) | (intro e; subst e) | intro _)
    exact re0 () rfl⟩
theorem mask_next {fr w : Nat} (h : fr / 64 ≤ w) : (((maskW fr (w + 1)).toNat : Nat) : Int) = 18446744073709551615 := by
  unfold maskW
  rw [if_neg (by omega)]
  decide
set_option maxHeartbeats 4000000 in
instance mk_next_spec : Known Tryd.prog 39 (∀ (p : Nat) (c0 c5 : Value) (f : Nat → BitVec 64) (xb : Int) (fr : Nat) [NatI xb fr], fr < 256 → SpecH Tryd.prog 39 #[.pointer (some ⟨p, 1, none⟩), .int .i64 xb] [obj p 63 [c0, .int .u64 ((f 0).toNat : Nat), .int .u64 ((f 1).toNat : Nat), .int .u64 ((f 2).toNat : Nat), .int .u64 ((f 3).toNat : Nat), c5], Tab64] (fun _ : Unit => .tuple #[.int .i64 ((nb (bitB f) fr).getD 0 : Nat), .bool (nb (bitB f) fr).isSome]) (fun _ => [obj p 63 [c0, .int .u64 ((f 0).toNat : Nat), .int .u64 ((f 1).toNat : Nat), .int .u64 ((f 2).toNat : Nat), .int .u64 ((f 3).toNat : Nat), c5]])) := ⟨fun p c0 c5 f xb fr _ hb => by
  obtain rfl : xb = (fr : Int) := NatI.out
  haveI : NatI ((fr : Int) % 64) (fr % 64) := ⟨by omega⟩
  have hm : fr % 64 < 64 := Nat.mod_lt _ (by decide)
  have e1 : BitVec.allOnes 64 <<< (fr % 64) = maskW fr (fr / 64) := by unfold maskW; rw [if_pos rfl]
  have e2 : (fr : Int) / 64 = ((fr / 64 : Nat) : Int) := by omega
  refine spec_of Tryd.func39 rfl Tryd.ntmps39 rfl [(0, _), (1, _)] rfl ?_; intro base F l0 hl0; (try simp only [List.cons_append] at hl0); (try simp only [List.nil_append] at hl0); subst hl0
  repeat' (first | refine stz ?_ | refine And.intro ?_ ?_ | (intro e; exfalso; omega) | (intro e; subst e) | intro _)
  rw [e1, e2]
  refine tc_lp (ι := {w : Nat // fr / 64 ≤ w ∧ w ≤ 4 ∧ ∀ b, fr ≤ b → b < 64 * w → bitB f b = false}) [6, 7] (fun e w => (6, .int .u64 ((maskW fr w.1).toNat : Nat)) :: (7, .int .i64 (w.1 : Nat)) :: e) (fun _ => [obj p 63 [c0, .int .u64 ((f 0).toNat : Nat), .int .u64 ((f 1).toNat : Nat), .int .u64 ((f 2).toNat : Nat), .int .u64 ((f 3).toNat : Nat), c5], Tab64, F]) (fun w => 4 - w.1) ⟨fr / 64, by omega, by omega, by omega⟩ ?_
  rintro K ⟨w, hw1, hw2, hno⟩ hK
  dsimp only
  by_cases hc : w < 4
  · have e3 := mask_next hw1
    by_cases hx : f w &&& maskW fr w = 0#64
    · have hz : (f w &&& maskW fr w).toNat = 0 := by rw [hx]; rfl
      have hno2 := next_miss hw1 hx hno
      obtain rfl | rfl | rfl | rfl : w = 0 ∨ w = 1 ∨ w = 2 ∨ w = 3 := by omega
      · repeat' (first | refine stz ?_ | refine And.intro ?_ ?_ | (intro e; exfalso; omega) | (intro e; subst e) | intro _)
        rw [← e3]
        exact again hK ⟨1, by omega, by omega, hno2⟩
      · repeat' (first | refine stz ?_ | refine And.intro ?_ ?_ | (intro e; exfalso; omega) | (intro e; subst e) | intro _)
        rw [← e3]
        exact again hK ⟨2, by omega, by omega, hno2⟩
      · repeat' (first | refine stz ?_ | refine And.intro ?_ ?_ | (intro e; exfalso; omega) | (intro e; subst e) | intro _)
        rw [← e3]
        exact again hK ⟨3, by omega, by omega, hno2⟩
      · repeat' (first | refine stz ?_ | refine And.intro ?_ ?_ | (intro e; exfalso; omega) | (intro e; subst e) | intro _)
        rw [← e3]
        exact again hK ⟨4, by omega, by omega, hno2⟩
    · have hz : (f w &&& maskW fr w).toNat ≠ 0 := fun h => hx (BitVec.eq_of_toNat_eq (by simpa using h))
      have htz := (tz_spec hx).1
      have hnb := next_hit hw1 hc hx hno
      rw [hnb]
      obtain rfl | rfl | rfl | rfl : w = 0 ∨ w = 1 ∨ w = 2 ∨ w = 3 := by omega
      all_goals (repeat' (first | refine stz ?_ | refine And.intro ?_ ?_ | (intro e; exfalso; omega) | (intro e; subst e) | intro _))
      all_goals exact rt2 () rfl
  · obtain rfl : w = 4 := by omega
    have hnb : nb (bitB f) fr = none := nb_none fun c h1 h2 => hno c h1 (by omega)
    rw [hnb]
    repeat' (first | refine stz ?_ | refine And.intro ?_ ?_ | (intro e; exfalso; omega) | (intro e; subst e) | intro _)
    exact rt2 () rfl⟩
end Go.Proofs.YtmiblmoppdgnjaaDoor
