/- A range over a map that is owned: the entry that a step has come to. For whatever program. -/
import Derived.Test.YtdpiglociolagaaGreatSlX
namespace Go.Sl
section
variable {α : Type}
def MapIc (kk : IntKind) (V : α → Value) (b : Nat) (m : List (Nat × α)) (it : Nat) (T : List (Nat × α)) (k : Nat) (v : α) : HP := fun h => ∃ bs clock seen c, MWf m bs clock ∧ Left m bs (seen ++ [c]) T ∧ ((k, v), c) ∈ m.zip bs ∧ lstX [blk b (.map (mEnts kk V m bs) clock), blk it (.mapIter (some b) clock (seen ++ [c]).toArray clock)] h
end
section
variable {r : Option Nat} {P : Program} {base : World} {n : Nat} {ds : List Deferred} {Q : Exit → Act → World → Prop} {env : Env} {lc l l' : List HP} {all : Array Oper} {ro : List Oper}
variable {dst : Option Tmp} {ty : TypeId} {pos : String} {af : Array Edge} {g : Option (Nat × Bool)} {α : Type} {kk : IntKind} {V : α → Value}
theorem St.mapIc {b it k : Nat} {v : α} {m T : List (Nat × α)} {w : World} {r' : List HP} (hs : St base l w) (hr : Rem l (MapIc kk V b m it T k v) r') : ∃ bs clock seen c, MWf m bs clock ∧ Left m bs (seen ++ [c]) T ∧ ((k, v), c) ∈ m.zip bs ∧ St base (blk b (.map (mEnts kk V m bs) clock) :: blk it (.mapIter (some b) clock (seen ++ [c]).toArray clock) :: r') w := by
  obtain ⟨hp, hf, hl⟩ := hs.heap
  obtain ⟨p, q, hd, e, ⟨bs, clock, seen, c, hw, hL, hm, hb⟩, hq⟩ := hr.out hl
  refine ⟨bs, clock, seen, c, hw, hL, hm, hs.os, hs.tape, hs.output, hp, hf, ?_⟩
  rw [e]
  exact lstX_out (xs := [_, _]) ⟨p, q, hd, rfl, hb, hq⟩
theorem ent_mapIc {b it k : Nat} {v : α} {m T : List (Nat × α)} {r' : List HP} : Ent (MapIc kk V b m it T k v :: r') (MapIt kk V b m it T :: r') := fun _ y => lst_cons_mono (fun _ ⟨bs, clock, seen, c, hw, hL, _, hb⟩ => ⟨bs, clock, seen ++ [c], hw, hL, hb⟩) (fun _ z => z) y
theorem rem_app {a b r' : List HP} {x : HP} (h : Rem a x r') : Rem (a ++ b) x (r' ++ b) := by
  induction h with
  | here => exact .here _ _
  | there _ _ ih => exact .there _ ih
theorem find_born {m : List (Nat × α)} {bs : List Nat} {c : Nat} {p : Nat × α} (hn : bs.Nodup) (hz : (p, c) ∈ m.zip bs) : ((m.zip bs).map (mEnt kk V)).find? (fun e => e.born == c) = some (mEnt kk V (p, c)) := by
  induction m generalizing bs with
  | nil => simp at hz
  | cons x m ih =>
    cases bs with
    | nil => simp at hz
    | cons y bs =>
      rw [List.nodup_cons] at hn
      rw [List.zip_cons_cons, List.mem_cons] at hz
      rw [List.zip_cons_cons, List.map_cons, List.find?_cons]
      rcases hz with e | h
      · cases e; simp [mEnt]
      · have : y ≠ c := fun e => hn.1 (by rw [e]; exact (List.of_mem_zip h).2)
        have e2 : ((mEnt kk V (x, y)).born == c) = false := by simpa [mEnt] using this
        rw [e2]
        exact ih hn.2 h
theorem opq_entry {x : Operand} {b it k : Nat} {v : α} {m T : List (Nat × α)} {r' : List HP} (hw : Want all ⟨dst, .entry x, ty, pos, af, g⟩ env) (hx : ev env x = some (.pointer (some ⟨it, 0, none⟩))) (hr : Rem lc (MapIc kk V b m it T k v) r') :
    OpQ r P all ⟨dst, .entry x, ty, pos, af, g⟩ n ds env lc (.tuple #[.int kk (k : Int), V v]) :=
  opq_run hw (by simp) fun base F a w ha hs => by
    have h1 := ha.ev (x := x) (by simp [Op.operands]) hx
    obtain ⟨bs, clock, seen, c, hwf, hL, hm, hs1⟩ := hs.mapIc (rem_app hr)
    have hb := hs1.block (.here _ _)
    have hi := hs1.block (.there _ (.here _ _))
    have hf := find_born (kk := kk) (V := V) hwf.nd hm
    have hbk : ((seen ++ [c]).toArray).back? = some c := by simp
    have he : (mEnts kk V m bs).find? (fun e => e.born == c) = some (mEnt kk V ((k, v), c)) := by
      unfold mEnts; simpa using hf
    have hrun : (Instr.entry (.pointer (some ⟨it, 0, none⟩))).run P w = .ok (.tuple #[.int kk (k : Int), V v]) w := by
      simp only [Instr.entry, getObj, Sem.run_bind, Sem.run, hi, hb, Result.andThen, hbk, bne_self_eq_false, Bool.false_eq_true, if_false, he]
      rfl
    simp only [execOp, h1, Sem.run_bind, hrun, Result.andThen]
    rfl
theorem tl_nextC {x : Operand} {b it d : Nat} {m T : List (Nat × α)} {l1 : List HP} (hx : ev env x = some (.pointer (some ⟨it, 0, none⟩))) (hr : Rem l (MapIt kk V b m it T) l1) (hn : d < n)
    (h0 : T = [] → TL r P base n ds all ro Q ((d, .tuple #[.bool false]) :: env) (MapIt kk V b m it [] :: l1))
    (h1 : ∀ k v, (k, v) ∈ T → TL r P base n ds all ro Q ((d, .tuple #[.bool true, .int kk (k : Int), V v]) :: env) (MapIc kk V b m it (T.filter fun q => q.1 != k) k v :: l1))
    (hw : Want all ⟨some d, .next x false, ty, pos, af, g⟩ env) : TL r P base n ds all (⟨some d, .next x false, ty, pos, af, g⟩ :: ro) Q env l := fun a w ha hs => by
  have e1 := (ha.ao all ⟨some d, .next x false, ty, pos, af, g⟩).ev (x := x) (by simp [Op.operands]) hx
  obtain ⟨bs, clock, seen, hwf, hL, hs1⟩ := hs.mapIt hr
  have hb := hs1.block (.here _ _)
  have hi := hs1.block (.there _ (.here _ _))
  have hold : ∀ x ∈ (mEnts kk V m bs).toList, x.born < clock := fun y hy => by
    simp only [mEnts, List.mem_map] at hy
    obtain ⟨q, hq, rfl⟩ := hy
    exact hwf.lt _ (List.of_mem_zip hq).2
  have hlf : (leftOf (mEnts kk V m bs) seen.toArray).toList = ((m.zip bs).filter fun p => !seen.contains p.2).map (mEnt kk V) := by
    simp only [leftOf, mEnts, Array.toList_filter, List.filter_map]
    congr 1
    refine List.filter_congr fun q _ => ?_
    simp only [Function.comp, mEnt, List.contains_toArray]
  refine Step.of_v r P (R := fun u w' => (T = [] ∧ u = .tuple #[.bool false] ∧ St base (MapIt kk V b m it [] :: l1) w') ∨ ∃ k v, (k, v) ∈ T ∧ u = .tuple #[.bool true, .int kk (k : Int), V v] ∧ St base (MapIc kk V b m it (T.filter fun q => q.1 != k) k v :: l1) w') ?_ ?_
  · refine ⟨by simp, ?_⟩
    rw [if_pos (hw _ (ha.ao all _).val)]
    rcases run_next (P := P) (ty := ty) hi hb hold with ⟨h2, h3⟩ | ⟨e, he, d', h3⟩
    · have hT : T = [] := by
        rw [hL]
        have h4 : (((m.zip bs).filter fun p => !seen.contains p.2).map (mEnt kk V)).length = 0 := by rw [← hlf]; simpa using h2
        have h5 : ((m.zip bs).filter fun p => !seen.contains p.2) = [] := List.eq_nil_of_length_eq_zero (by simpa using h4)
        rw [h5]; rfl
      subst hT
      have hrun : (execOp a.eval ⟨some d, .next x false, ty, pos, af, g⟩).run P w = .ok (.value (.tuple #[.bool false])) w := by simp [execOp, e1, h3]
      rw [hrun]
      exact .inl ⟨rfl, rfl, St.mapIt_mk hwf hL hs1⟩
    · rw [hlf] at he
      obtain ⟨q, hq, rfl⟩ := List.mem_map.1 he
      obtain ⟨⟨k, v⟩, c⟩ := q
      have hz := (List.mem_filter.1 hq).1
      have hrun : (execOp a.eval ⟨some d, .next x false, ty, pos, af, g⟩).run P w = .ok (.value (.tuple #[.bool true, .int kk (k : Int), V v])) ({ w with drawn := d', heap := w.heap.setIfInBounds it (.mapIter (some b) clock (seen ++ [c]).toArray clock) } : World) := by
        have h4 : seen.toArray.push c = (seen ++ [c]).toArray := by simp
        simp only [mEnt, h4] at h3
        simp only [execOp, e1, Sem.run_bind, h3, Result.andThen]
        rfl
      rw [hrun]
      refine .inr ⟨k, v, by rw [hL]; exact List.mem_map.2 ⟨_, hq, rfl⟩, rfl, ?_⟩
      have hs2 := (hs1.drawn d').setObj (o' := .mapIter (some b) clock (seen ++ [c]).toArray clock) (.there _ (.here _))
      refine hs2.ent fun _ y => lst_cons_mono (fun _ z => ⟨bs, clock, seen, c, hwf, left_next hwf hL hz, hz, z⟩) (fun _ z => z) (lstX_in (xs := [_, _]) ?_)
      simpa using y
  · rintro u w' (⟨hT, rfl, hs'⟩ | ⟨k, v, hm, rfl, hs'⟩)
    · exact h0 hT _ _ (ha.put hn _) hs'
    · exact h1 k v hm _ _ (ha.put hn _) hs'
end
theorem TC.weak {r : Option Nat} {P : Program} {base : World} {n : Nat} {ds : List Deferred} {c : Code} {Q : Exit → Act → World → Prop} {env env' : Env} {l : List HP} (h : TC r P base n ds c Q env' l) (hs : Sub env env') : TC r P base n ds c Q env l := by
  unfold TC at *
  exact fun a w ha hw => h a w (ha.sub hs) hw
end Go.Sl
