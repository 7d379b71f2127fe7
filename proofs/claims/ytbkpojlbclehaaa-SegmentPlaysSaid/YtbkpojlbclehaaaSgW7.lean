/- segment, walked: a copy. -/
import Derived.Test.YtbkpojlbclehaaaSgW6
namespace Go.Sg
open Go.Sl
theorem ent_mapIcS {α : Type} {kk : IntKind} {V : α → Value} {b it k : Nat} {v : α} {m T : List (Nat × α)} {l r' : List HP} (hr : Rem l (MapIc kk V b m it T k v) r') : Ent l (MapIt kk V b m it T :: r') := fun _ y => ent_mapIc _ (hr.out y)
/-- A map that is copied, entry by entry; what is left. -/
structure Cp (kv Tl kv2 : List (Nat × Int)) : Prop where
  nd : (mkeys kv2).Nodup
  sub : ∀ q ∈ Tl, q ∈ kv
  at_ : ∀ k, mget kv2 k = if k ∈ mkeys Tl then none else mget kv k
theorem mget_mem : ∀ {kv : List (Nat × Int)} {k : Nat} {v : Int}, (mkeys kv).Nodup → (k, v) ∈ kv → mget kv k = some v
  | [], _, _, _, h => by cases h
  | (a, b) :: r, k, v, hn, h => by
    have hn' : (a :: mkeys r).Nodup := hn
    rw [List.nodup_cons] at hn'
    show (if a = k then some b else mget r k) = some v
    rcases List.mem_cons.1 h with e | h
    · cases e; rw [if_pos rfl]
    · have : a ≠ k := fun e => hn'.1 (by rw [e]; exact List.mem_map_of_mem (f := (·.1)) h)
      rw [if_neg this]
      exact mget_mem hn'.2 h
theorem Cp.start {kv : List (Nat × Int)} : Cp kv kv [] := ⟨List.nodup_nil, fun _ h => h, fun k => by
  show none = _
  split
  · rfl
  · rename_i h; exact (mget_none.2 h).symm⟩
theorem Cp.step {kv Tl kv2 : List (Nat × Int)} {k : Nat} {v : Int} (h : Cp kv Tl kv2) (hn : (mkeys kv).Nodup) (hm : (k, v) ∈ Tl) : Cp kv (Tl.filter fun q => q.1 != k) (mput kv2 k v) := ⟨mput_nodup h.nd, fun q hq => h.sub q (List.mem_filter.1 hq).1, fun j => by
  have e : ∀ j, j ∈ mkeys (Tl.filter fun q => q.1 != k) ↔ j ∈ mkeys Tl ∧ j ≠ k := fun j => by
    unfold mkeys
    rw [List.mem_map, List.mem_map]
    constructor
    · rintro ⟨q, hq, rfl⟩
      obtain ⟨h1, h2⟩ := List.mem_filter.1 hq
      exact ⟨⟨q, h1, rfl⟩, by simpa using h2⟩
    · rintro ⟨⟨q, hq, rfl⟩, h2⟩
      exact ⟨q, List.mem_filter.2 ⟨hq, by simpa using h2⟩, rfl⟩
  rw [mget_put, h.at_]
  by_cases hj : j = k
  · subst hj
    rw [if_pos rfl, if_neg (fun x => ((e j).1 x).2 rfl), mget_mem hn (h.sub _ hm)]
  · rw [if_neg hj]
    by_cases h2 : j ∈ mkeys Tl
    · rw [if_pos h2, if_pos ((e j).2 ⟨h2, hj⟩)]
    · rw [if_neg h2, if_neg (fun x => h2 ((e j).1 x).1)]⟩
theorem Cp.done {P T : List It} {kv kv2 : List (Nat × Int)} (h : Cp kv [] kv2) (cm : CM P T kv) : CM P T kv2 := ⟨h.nd, fun k z => by
  rw [h.at_, if_neg (by simp [mkeys])]
  exact cm.2 k z⟩
end Go.Sg
namespace Go.Proofs.Ytbkpojlbclehaaa
open Go.Lk Go.Sl Go.Lr Go.Sg
attribute [local irreducible] TK TL TC Th Bk Nx fnPost WA TQ OpQ OpN SpecH Rd Ent IterH RoundH Rb Rp fnPostM
attribute [local irreducible] Fld.addE Fld.addF Fld.befE Fld.befF Fld.inE Fld.remF Fld.first Fld.last Fld.next Fld.prev Fld.ofR Fld.listOf Fld.joinE Fld.joinF renE renG Fld.at Fld.set Fld.place
attribute [local irreducible] Lr.addL Lr.addE Lr.useL Lr.remE Sg.sm Sg.sl Sg.rm Sg.demN
set_option maxHeartbeats 8000000 in
instance sg_copy : Known Try.prog 36 (∀ (p : Nat) (P T : List It) (L : Int), SpecH Try.prog 36 #[.pointer (some ⟨p, 0, none⟩)] [SegAt p P T L] (fun c : Nat => .pointer (some ⟨c, 0, none⟩)) (fun c => [SegAt p P T L, SegAt c P T L])) := ⟨fun p P T L => by
  have hc : Chk 0 0 0 := ⟨rfl⟩
  refine spec_of Try.func36 rfl Try.ntmps36 rfl [(0, _)] rfl ?_; intro base F l0 hl0; (try simp only [List.cons_append] at hl0); (try simp only [List.nil_append] at hl0); subst hl0
  refine SegAt.openC fun st => ?_
  repeat' (first | ((fail_if_success (refine atD ?_)); refine stw ?_) | refine And.intro ?_ ?_ | (intro e; exfalso; omega) | (intro e; subst e) | intro _)
  refine SegX.openC fun l0 l1 m kv iv cm => ?_
  refine drx [] ?_
  refine tks [0, 6, 13, 18, 1, 7, 14, 19, 2, 8, 15, 20, 3, 9, 16, 21, 4, 10] 7 ?_; repeat' (first | refine stw ?_ | refine And.intro ?_ ?_ | (intro e; exfalso; omega) | (intro e; subst e) | intro _)
  refine hvB 5 17 (fun x5 => ?_) (fun x17 => ?_) (hq2 := by (try simp only [List.cons_append, List.nil_append]); exact opn_makeMap .u32 (fun z : Int => .int .i64 z) (by (first | exact want_none rfl | exact want_yes rfl rfl rfl rfl rfl | fail)))
  · refine hvB 11 17 (fun x11 => ?_) (fun x17 => ?_) (hq2 := by (try simp only [List.cons_append, List.nil_append]); exact opn_makeMap .u32 (fun z : Int => .int .i64 z) (by (first | exact want_none rfl | exact want_yes rfl rfl rfl rfl rfl | fail)))
    · refine tks [12] 4 ?_; repeat' (first | refine stw ?_ | refine And.intro ?_ ?_ | (intro e; exfalso; omega) | (intro e; subst e) | intro _)
      refine hv 17 (fun x17 => ?_) (hq := by (try simp only [List.cons_append, List.nil_append]); exact opn_makeMap .u32 (fun z : Int => .int .i64 z) (by (first | exact want_none rfl | exact want_yes rfl rfl rfl rfl rfl | fail)))
      refine tks [22] 2 ?_; repeat' (first | refine stw ?_ | refine And.intro ?_ ?_ | (intro e; exfalso; omega) | (intro e; subst e) | intro _)
      refine hv 23 fun x23 => ?_
      refine tks [24] 0 ?_; repeat' (first | refine stw ?_ | refine And.intro ?_ ?_ | (intro e; exfalso; omega) | (intro e; subst e) | intro _)
      rename_i it
      refine tc_lp (ι := {x : List (Nat × Int) × List (Nat × Int) // Cp kv x.1 x.2}) [] (fun e _ => e) (fun x => [MapIt .u32 (fun z : Int => .int .i64 z) m kv it x.1.1, obj p 68 [.pointer (some ⟨l0, 0, none⟩), .pointer (some ⟨l1, 0, none⟩), .int .i64 (sm P : Nat), .int .i64 (sm T : Nat), .map (some m), .int .i64 L], LruAt l0 (sl P), LruAt l1 (sl T), obj x23 68 [.pointer (some ⟨x5, 0, none⟩), .pointer (some ⟨x11, 0, none⟩), .int .i64 (sm P : Nat), .int .i64 (sm T : Nat), .map (some x17), .int .i64 L], MapA .u32 (fun z : Int => .int .i64 z) x17 x.1.2, LruAt x11 (sl T), LruAt x5 (sl P), F]) (fun x => x.1.1.length) ⟨(kv, []), Cp.start⟩ ?_
      rintro K ⟨⟨Tl, kv2⟩, hcp⟩ hK
      dsimp only at hcp ⊢
      repeat' (first | refine stw ?_ | refine And.intro ?_ ?_ | (intro e; exfalso; omega) | (intro e; subst e) | intro _)
      refine tl_nextC (kk := .u32) (V := (fun z : Int => .int .i64 z)) (b := m) (m := kv) (T := Tl) rfl (by (repeat (first | (with_reducible exact Rem.here _ _) | (with_reducible apply Rem.there) | fail)); done) (Nat.lt_of_ble_eq rfl) ?_ ?_ (by (first | exact want_none rfl | exact want_yes rfl rfl rfl rfl rfl | fail))
      · rintro rfl
        refine TL.ent (ent_mapIt (.here _ _)) ?_
        have cm2 := hcp.done cm
        repeat' (first | refine stw ?_ | refine And.intro ?_ ?_ | (intro e; exfalso; omega) | (intro e; subst e) | intro _)
        refine rt1 x23 rfl (he := ?_)
        refine (en2 (SegX.shut (p := p) (l0 := l0) (l1 := l1) (m := m) iv cm)).trans ((en2 (SegAt.shut st)).trans ?_)
        refine Ent.cons (by (repeat (first | (with_reducible exact Rem.here _ _) | (with_reducible apply Rem.there) | fail)); done) ?_
        exact (en2 (SegX.shut (p := x23) (l0 := x5) (l1 := x11) (m := x17) iv cm2)).trans (en2 (SegAt.shut st))
      · intro k v hkv
        have hlen : (Tl.filter fun q => q.1 != k).length < Tl.length := by
          refine List.length_filter_lt_length_iff_exists.2 ⟨(k, v), hkv, by simp⟩
        have hcp2 := hcp.step cm.1 hkv
        repeat' (first | refine stw ?_ | refine And.intro ?_ ?_ | (intro e; exfalso; omega) | (intro e; subst e) | intro _)
        refine tl_q (opq_entry (by (first | exact want_none rfl | exact want_yes rfl rfl rfl rfl rfl | fail)) rfl (by (repeat (first | (with_reducible exact Rem.here _ _) | (with_reducible apply Rem.there) | fail)); done)) rfl (Nat.lt_of_ble_eq rfl) ?_
        repeat' (first | refine stw ?_ | refine And.intro ?_ ?_ | (intro e; exfalso; omega) | (intro e; subst e) | intro _)
        exact again hK ⟨(Tl.filter fun q => q.1 != k, mput kv2 k v), hcp2⟩ (he := (ent_mapIcS (by (repeat (first | (with_reducible exact Rem.here _ _) | (with_reducible apply Rem.there) | fail)); done)).trans en)
    · refine hv 11 fun x11 => ?_
      refine tks [12, 22] 2 ?_; repeat' (first | refine stw ?_ | refine And.intro ?_ ?_ | (intro e; exfalso; omega) | (intro e; subst e) | intro _)
      refine hv 23 fun x23 => ?_
      refine tks [24] 0 ?_; repeat' (first | refine stw ?_ | refine And.intro ?_ ?_ | (intro e; exfalso; omega) | (intro e; subst e) | intro _)
      rename_i it
      refine tc_lp (ι := {x : List (Nat × Int) × List (Nat × Int) // Cp kv x.1 x.2}) [] (fun e _ => e) (fun x => [MapIt .u32 (fun z : Int => .int .i64 z) m kv it x.1.1, obj p 68 [.pointer (some ⟨l0, 0, none⟩), .pointer (some ⟨l1, 0, none⟩), .int .i64 (sm P : Nat), .int .i64 (sm T : Nat), .map (some m), .int .i64 L], LruAt l0 (sl P), LruAt l1 (sl T), obj x23 68 [.pointer (some ⟨x5, 0, none⟩), .pointer (some ⟨x11, 0, none⟩), .int .i64 (sm P : Nat), .int .i64 (sm T : Nat), .map (some x17), .int .i64 L], MapA .u32 (fun z : Int => .int .i64 z) x17 x.1.2, LruAt x11 (sl T), LruAt x5 (sl P), F]) (fun x => x.1.1.length) ⟨(kv, []), Cp.start⟩ ?_
      rintro K ⟨⟨Tl, kv2⟩, hcp⟩ hK
      dsimp only at hcp ⊢
      repeat' (first | refine stw ?_ | refine And.intro ?_ ?_ | (intro e; exfalso; omega) | (intro e; subst e) | intro _)
      refine tl_nextC (kk := .u32) (V := (fun z : Int => .int .i64 z)) (b := m) (m := kv) (T := Tl) rfl (by (repeat (first | (with_reducible exact Rem.here _ _) | (with_reducible apply Rem.there) | fail)); done) (Nat.lt_of_ble_eq rfl) ?_ ?_ (by (first | exact want_none rfl | exact want_yes rfl rfl rfl rfl rfl | fail))
      · rintro rfl
        refine TL.ent (ent_mapIt (.here _ _)) ?_
        have cm2 := hcp.done cm
        repeat' (first | refine stw ?_ | refine And.intro ?_ ?_ | (intro e; exfalso; omega) | (intro e; subst e) | intro _)
        refine rt1 x23 rfl (he := ?_)
        refine (en2 (SegX.shut (p := p) (l0 := l0) (l1 := l1) (m := m) iv cm)).trans ((en2 (SegAt.shut st)).trans ?_)
        refine Ent.cons (by (repeat (first | (with_reducible exact Rem.here _ _) | (with_reducible apply Rem.there) | fail)); done) ?_
        exact (en2 (SegX.shut (p := x23) (l0 := x5) (l1 := x11) (m := x17) iv cm2)).trans (en2 (SegAt.shut st))
      · intro k v hkv
        have hlen : (Tl.filter fun q => q.1 != k).length < Tl.length := by
          refine List.length_filter_lt_length_iff_exists.2 ⟨(k, v), hkv, by simp⟩
        have hcp2 := hcp.step cm.1 hkv
        repeat' (first | refine stw ?_ | refine And.intro ?_ ?_ | (intro e; exfalso; omega) | (intro e; subst e) | intro _)
        refine tl_q (opq_entry (by (first | exact want_none rfl | exact want_yes rfl rfl rfl rfl rfl | fail)) rfl (by (repeat (first | (with_reducible exact Rem.here _ _) | (with_reducible apply Rem.there) | fail)); done)) rfl (Nat.lt_of_ble_eq rfl) ?_
        repeat' (first | refine stw ?_ | refine And.intro ?_ ?_ | (intro e; exfalso; omega) | (intro e; subst e) | intro _)
        exact again hK ⟨(Tl.filter fun q => q.1 != k, mput kv2 k v), hcp2⟩ (he := (ent_mapIcS (by (repeat (first | (with_reducible exact Rem.here _ _) | (with_reducible apply Rem.there) | fail)); done)).trans en)
  · refine hv 5 fun x5 => ?_
    refine hv 11 fun x11 => ?_
    refine tks [12, 22] 2 ?_; repeat' (first | refine stw ?_ | refine And.intro ?_ ?_ | (intro e; exfalso; omega) | (intro e; subst e) | intro _)
    refine hv 23 fun x23 => ?_
    refine tks [24] 0 ?_; repeat' (first | refine stw ?_ | refine And.intro ?_ ?_ | (intro e; exfalso; omega) | (intro e; subst e) | intro _)
    rename_i it
    refine tc_lp (ι := {x : List (Nat × Int) × List (Nat × Int) // Cp kv x.1 x.2}) [] (fun e _ => e) (fun x => [MapIt .u32 (fun z : Int => .int .i64 z) m kv it x.1.1, obj p 68 [.pointer (some ⟨l0, 0, none⟩), .pointer (some ⟨l1, 0, none⟩), .int .i64 (sm P : Nat), .int .i64 (sm T : Nat), .map (some m), .int .i64 L], LruAt l0 (sl P), LruAt l1 (sl T), obj x23 68 [.pointer (some ⟨x5, 0, none⟩), .pointer (some ⟨x11, 0, none⟩), .int .i64 (sm P : Nat), .int .i64 (sm T : Nat), .map (some x17), .int .i64 L], MapA .u32 (fun z : Int => .int .i64 z) x17 x.1.2, LruAt x11 (sl T), LruAt x5 (sl P), F]) (fun x => x.1.1.length) ⟨(kv, []), Cp.start⟩ ?_
    rintro K ⟨⟨Tl, kv2⟩, hcp⟩ hK
    dsimp only at hcp ⊢
    repeat' (first | refine stw ?_ | refine And.intro ?_ ?_ | (intro e; exfalso; omega) | (intro e; subst e) | intro _)
    refine tl_nextC (kk := .u32) (V := (fun z : Int => .int .i64 z)) (b := m) (m := kv) (T := Tl) rfl (by (repeat (first | (with_reducible exact Rem.here _ _) | (with_reducible apply Rem.there) | fail)); done) (Nat.lt_of_ble_eq rfl) ?_ ?_ (by (first | exact want_none rfl | exact want_yes rfl rfl rfl rfl rfl | fail))
    · rintro rfl
      refine TL.ent (ent_mapIt (.here _ _)) ?_
      have cm2 := hcp.done cm
      repeat' (first | refine stw ?_ | refine And.intro ?_ ?_ | (intro e; exfalso; omega) | (intro e; subst e) | intro _)
      refine rt1 x23 rfl (he := ?_)
      refine (en2 (SegX.shut (p := p) (l0 := l0) (l1 := l1) (m := m) iv cm)).trans ((en2 (SegAt.shut st)).trans ?_)
      refine Ent.cons (by (repeat (first | (with_reducible exact Rem.here _ _) | (with_reducible apply Rem.there) | fail)); done) ?_
      exact (en2 (SegX.shut (p := x23) (l0 := x5) (l1 := x11) (m := x17) iv cm2)).trans (en2 (SegAt.shut st))
    · intro k v hkv
      have hlen : (Tl.filter fun q => q.1 != k).length < Tl.length := by
        refine List.length_filter_lt_length_iff_exists.2 ⟨(k, v), hkv, by simp⟩
      have hcp2 := hcp.step cm.1 hkv
      repeat' (first | refine stw ?_ | refine And.intro ?_ ?_ | (intro e; exfalso; omega) | (intro e; subst e) | intro _)
      refine tl_q (opq_entry (by (first | exact want_none rfl | exact want_yes rfl rfl rfl rfl rfl | fail)) rfl (by (repeat (first | (with_reducible exact Rem.here _ _) | (with_reducible apply Rem.there) | fail)); done)) rfl (Nat.lt_of_ble_eq rfl) ?_
      repeat' (first | refine stw ?_ | refine And.intro ?_ ?_ | (intro e; exfalso; omega) | (intro e; subst e) | intro _)
      exact again hK ⟨(Tl.filter fun q => q.1 != k, mput kv2 k v), hcp2⟩ (he := (ent_mapIcS (by (repeat (first | (with_reducible exact Rem.here _ _) | (with_reducible apply Rem.there) | fail)); done)).trans en)⟩
end Go.Proofs.Ytbkpojlbclehaaa
