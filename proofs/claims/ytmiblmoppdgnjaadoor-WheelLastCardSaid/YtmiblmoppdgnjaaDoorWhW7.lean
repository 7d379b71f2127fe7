/- wheel, walked: a bucket is emptied. -/
import Derived.Test.YtmiblmoppdgnjaaDoorWhW6
namespace Go.Proofs.YtmiblmoppdgnjaaDoor
open Go.Lk Go.Sl Go.Lf Go.Wh
attribute [local irreducible] TK TL TC Th Bk Nx fnPost WA TQ OpQ OpN SpecH Rd Ent IterH RoundH Rb Rp fnPostM
attribute [local irreducible] Fld.addE Fld.addF Fld.befE Fld.befF Fld.inE Fld.remF Fld.first Fld.last Fld.next Fld.prev Fld.ofR Fld.listOf Fld.joinE Fld.joinF renE renG Fld.at Fld.set Fld.place
attribute [local irreducible] Lf.wo Lf.cntOf Lf.grp
set_option maxHeartbeats 4000000 in
instance wh_take : Known Tryd.prog 36 (∀ (p : Nat) (m : List It) (b : Int), SpecH Tryd.prog 36 #[.pointer (some ⟨p, 0, none⟩), .int .i64 b] [WheelAt p m] (fun q : Option Addr × Nat => .tuple #[.slice q.1 (lstM m b).length q.2, .int .i64 (lstE b)]) (fun q => [WheelAt p (takM m b), Vec 31 1 q.1 (lstM m b).length q.2 (u32s (lstM m b))])) := ⟨fun p m b => by
  refine spec_of Tryd.func36 rfl Tryd.ntmps36 rfl [(0, _), (1, _)] rfl ?_; intro base F l0 hl0; (try simp only [List.cons_append] at hl0); (try simp only [List.nil_append] at hl0); subst hl0
  refine WheelAt.factsC (p := p) (m := m) (fun h0 => ?_) (by (repeat (first | (with_reducible exact Rem.here _ _) | (with_reducible apply Rem.there) | fail)); done)
  obtain ⟨N, o, hN⟩ := h0
  have hsub : ∀ x ∈ lstM m b, x ∈ ks m := fun x hx => by
    unfold lstM at hx
    split at hx
    · cases hx
    · exact grp_sub.subset hx
  have hlt : ∀ x ∈ lstM m b, x < 4194304 := fun x hx => by
    obtain ⟨y, hy, rfl⟩ := List.mem_map.1 (hsub x hx)
    have := o.lt y hy; omega
  have hlen : (lstM m b).length ≤ 4194304 := by
    have h1 := o.len
    have h2 : (lstM m b).length ≤ (ks m).length := by
      unfold lstM
      split
      · simp
      · exact grp_sub.length_le
    have h3 : (ks m).length = m.length := List.length_map _
    omega
  have htk : (lstM m b).foldl wo m = takM m b := by
    unfold lstM takM
    split
    · rfl
    · exact take_all o
  generalize hL : lstM m b = L at *
  have i1 : Known Tryd.prog 20 (SpecH Tryd.prog 20 #[.pointer (some ⟨p, 0, none⟩), .int .i64 b] [WheelAt p m] (fun q : Option Addr × Nat => .tuple #[.slice q.1 L.length q.2, .int .i64 (lstE b)]) (fun q => [WheelAt p m, Vec 31 1 q.1 L.length q.2 (u32s L)])) := ⟨by
    have h := wh_list.out p m b
    rwa [hL] at h⟩
  repeat' (first | refine stz ?_ | refine And.intro ?_ ?_ | (intro e; exfalso; omega) | (intro e; subst e) | intro _)
  rename_i a cap
  refine tc_lp (ι := {i : Nat // i ≤ L.length}) [18] (fun e i => (18, .int .i64 (i.1 : Nat)) :: e) (fun i => [WheelAt p ((L.take i.1).foldl wo m), Vec 31 1 a L.length cap (u32s L), F]) (fun i => L.length - i.1) ⟨0, by omega⟩ ?_
  rintro K ⟨i, hi⟩ hK
  dsimp only
  by_cases hc : i < L.length
  · have hx : L.getD i 0 < 4294967296 := by
      have h := hlt (L.getD i 0) (by rw [List.getD_eq_getElem?_getD, List.getElem?_eq_getElem hc]; exact List.getElem_mem hc)
      omega
    have e : wo ((L.take i).foldl wo m) (L.getD i 0) = (L.take (i + 1)).foldl wo m := by
      rw [List.getD_eq_getElem?_getD, List.getElem?_eq_getElem hc, ← List.take_append_getElem hc, List.foldl_append]; rfl
    repeat' (first | refine stz ?_ | refine And.intro ?_ ?_ | (intro e; exfalso; omega) | (intro e; subst e) | intro _)
    rw [e]
    exact again hK ⟨i + 1, by omega⟩
  · obtain rfl : i = L.length := by omega
    rw [List.take_length, htk]
    repeat' (first | refine stz ?_ | refine And.intro ?_ ?_ | (intro e; exfalso; omega) | (intro e; subst e) | intro _)
    exact rt2 (a, cap) rfl⟩
end Go.Proofs.YtmiblmoppdgnjaaDoor
