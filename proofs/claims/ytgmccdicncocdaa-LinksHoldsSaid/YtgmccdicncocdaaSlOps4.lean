/- More rules of the walk: append, len, reslicing, calls; what is said of a function. For whatever program. -/
import Derived.Test.YtgmccdicncocdaaSlOps3
namespace Go.Sl
section
variable {r : Option Nat} {P : Program} {n : Nat} {ds : List Deferred} {env : Env} {lc l l' : List HP} {all : Array Oper}
variable {z : Value} {bytes size : Nat} {cs zs : List Value} {dst : Option Tmp} {ty : TypeId} {pos : String} {af : Array Edge} {g : Option (Nat × Bool)}

theorem plain_one {v : Value} (h : plain v = true) : v.oneCell' = true := by cases v <;> simp_all [plain, Value.oneCell']
theorem execOp_builtin {ρ : Operand → Value} {b : Builtin} {args : Array Operand} {ats : Array TypeId} {v : Value} {w w' : World} (hb : ∀ C, (builtin b ats ty C (args.map ρ)).run P w = .ok (.value v) w') : (execOp ρ ⟨dst, .call ⟨.builtin b, args, ats⟩, ty, pos, af, g⟩).run P w = .ok (.value v) w' := by
  simp only [execOp, resolve, Sem.run_bind]
  simpa [invoke] using hb _

/-- A source of an append: nil, or cells that can be read. -/
inductive Src (l : List HP) (sz : Nat) : Option Addr → Nat → List Value → Prop
  | nil : Src l sz none 0 []
  | zero (ad : Addr) : Src l sz (some ad) 0 []
  | lies {ad : Addr} {m : Nat} {cs : List Value} (h : Rd l ad cs) (hl : cs.length = m * sz) : Src l sz (some ad) m cs
theorem src_vec {l r' : List HP} {E sz : Nat} {a : Option Addr} {m cap : Nat} {cs : List Value} {base : World} {K : Act → World → Prop} (hr : Rem l (Vec E sz a m cap cs) r') (h : Src l sz a m cs → TK base n ds K env l) : TK base n ds K env l := fun ac w ha hw => by
  rcases hw.vec hr with ⟨h0, h1, h2, h3⟩ | ⟨b, _, h1, _, h2, _⟩
  · subst h0; subst h1; subst h3; exact h .nil ac w ha hw
  · subst h1; exact h (.lies (rd_vec hr) h2) ac w ha hw

theorem opn_append {t e : TypeId} {x y : Operand} {a a2 : Option Addr} {k cap m c2 : Nat} {cs2 : List Value} {r1 : List HP} (hw : Want all ⟨dst, .call ⟨.builtin .append, #[x, y], #[t, t]⟩, ty, pos, af, g⟩ env)
    (hx : ev env x = some (.slice a k cap)) (hy : ev env y = some (.slice a2 m c2)) [hu : UL P t (.slice e)] [hi : TI P e z size bytes] (hr : Rem l (Vec e size a k cap cs) r1) (hsrc : Src l size a2 m cs2) (hp : ∀ v ∈ cs2, plain v = true)
    (hz : IsCells z zs) (hlz : zs.length = size) (hb : (k + m) * bytes ≤ 140737488355328) (hk : k + m ≤ 9223372036854775807) :
    OpN r P all ⟨dst, .call ⟨.builtin .append, #[x, y], #[t, t]⟩, ty, pos, af, g⟩ n ds env l (fun q : Option Addr × Nat => .slice q.1 (k + m) q.2) (fun q => Vec e size q.1 (k + m) q.2 (cs ++ cs2) :: r1) :=
  opn_run hw (by simp) fun base ac w ha hs => by
    have h1 := ha.ev (x := x) (by simp [Op.operands, Call.operands]) hx
    have h2 := ha.ev (x := y) (by simp [Op.operands, Call.operands]) hy
    obtain ⟨i0, hi0, hz0, hs0, hb0⟩ := info_parts hi.out
    have main : ∃ (q : Option Addr × Nat) (w' : World), (Builtin.append_ #[t, t] ty #[.slice a k cap, .slice a2 m c2]).run P w = .ok (.slice q.1 (k + m) q.2) w' ∧ St base (Vec e size q.1 (k + m) q.2 (cs ++ cs2) :: r1) w' := by
      have hl1 : St base (Vec e size a k cap cs :: r1) w := hs.ent fun _ y => hr.out y
      have junkl : ∀ need cap', need ≤ cap' → (Builtin.zeroCells z.cells (cap' - need)).toList.length = cap' * size - need * size := fun need cap' h => by
        rw [Array.length_toList, size_zeroCells, hz.eq.1, List.size_toArray, hlz, Nat.sub_mul]
      rcases hs.vec hr with ⟨rfl, rfl, rfl, rfl⟩ | ⟨b, junk, rfl, hkc, hlc, hlj, hblk⟩
      · cases hsrc with
        | nil =>
          refine ⟨(none, 0), w, ?_, hl1⟩
          simp [Builtin.append_, run_underlying hu.out, sizeOf, typeInfo, hi0, Builtin.lenOf, Builtin.firstCells]
        | zero ad =>
          refine ⟨(none, 0), w, ?_, hl1⟩
          have hf := run_firstCells_some (P := P) w size 0 ad 0 c2 [] (by simp) (by simp)
          simp [Builtin.append_, run_underlying hu.out, sizeOf, typeInfo, hi0, hs0, Builtin.lenOf, hf]
        | @lies ad m cs2 hrd hl2 =>
          rcases Nat.eq_zero_or_pos m with h0 | h0
          · subst h0
            have : cs2 = [] := List.eq_nil_of_length_eq_zero (by simpa using hl2)
            subst this
            refine ⟨(none, 0), w, ?_, hl1⟩
            have hf := run_firstCells_some (P := P) w size 0 ad 0 c2 [] (by simp) (by simp)
            simp [Builtin.append_, run_underlying hu.out, sizeOf, typeInfo, hi0, hs0, Builtin.lenOf, hf]
          · have hrun := run_append_nil (P := P) w t ty e i0 z hu.out hi0 hz0 ad m c2 cs2 (by rw [hs0]; exact hl2) (hrd.cell hs) h0 (by omega) (by rw [hb0]; simp at hb; omega)
            refine ⟨(some ⟨w.heap.size, 0, none⟩, grownCap w m 0 e), _, by simpa using hrun, ?_⟩
            have hge := grownCap_ge w m 0 e
            have hs' := (hs.drawn (w.drawn + 1)).alloc (.cells (cs2.toArray ++ Builtin.zeroCells z.cells (grownCap w m 0 e - m)) e)
            have h4 : (cs2.toArray ++ Builtin.zeroCells z.cells (grownCap w m 0 e - m)) = (cs2 ++ (Builtin.zeroCells z.cells (grownCap w m 0 e - m)).toList).toArray := by apply Array.ext'; simp
            have h5 : m * size ≤ grownCap w m 0 e * size := Nat.mul_le_mul_right _ hge
            show St base (Vec e size (some ⟨w.heap.size, 0, none⟩) (0 + m) (grownCap w m 0 e) ([] ++ cs2) :: r1) _
            rw [Nat.zero_add, List.nil_append]
            exact St.vec_mk hge hl2 (by rw [List.length_append, junkl _ _ hge]; omega) (hs'.ent fun _ y => lst_cons_mono (fun _ hh => by rw [← h4]; exact hh) (fun _ y => lst_drop (hr.out y)) y)
      · have hb1 := hblk.block (.here _ _)
        have holds : ∀ j v, cs[j]? = some v → w.cell? (Addr.add ⟨b, 0, none⟩ j) = some v := (rd_vec hr).cell hs
        have news : ∃ ad, (Builtin.append_ #[t, t] ty #[.slice (some ⟨b, 0, none⟩) k cap, .slice a2 m c2]).run P w = (Builtin.append_ #[t, t] ty #[.slice (some ⟨b, 0, none⟩) k cap, .slice (some ad) m c2]).run P w ∧ cs2.length = m * size ∧ ∀ j v, cs2[j]? = some v → w.cell? (ad.add j) = some v := by
          cases hsrc with
          | nil =>
            refine ⟨⟨b, 0, none⟩, ?_, by simp, by simp⟩
            have hf := run_firstCells_some (P := P) w size 0 ⟨b, 0, none⟩ 0 c2 [] (by simp) (by simp)
            simp [Builtin.append_, run_underlying hu.out, sizeOf, typeInfo, hi0, hs0, Builtin.lenOf, hkc, hf, run_firstCells_none]
          | zero ad => exact ⟨ad, rfl, by simp, by simp⟩
          | @lies ad m cs2 hrd hl2 => exact ⟨ad, rfl, hl2, hrd.cell hs⟩
        obtain ⟨ad, he, hl2, hcell⟩ := news
        by_cases hroom : k + m ≤ cap
        · have hmul : (k + m) * size ≤ cap * size := Nat.mul_le_mul_right _ hroom
          rw [Nat.add_mul] at hmul
          have hfit : k * i0.size + cs2.length ≤ (cs ++ junk).toArray.size := by rw [hs0, List.size_toArray, hlj, hl2]; exact hmul
          have hrun := run_append_room (P := P) w t ty e i0 hu.out hi0 b k cap (cs ++ junk).toArray hb1 ad m c2 cs2 (by rw [hs0]; exact hl2) hcell (fun u hu' => plain_one (hp u hu')) hroom hfit
          refine ⟨(some ⟨b, 0, none⟩, cap), _, he.trans hrun, ?_⟩
          have e1 : ((cs ++ junk).toArray.toList.take (k * i0.size) ++ cs2 ++ (cs ++ junk).toArray.toList.drop (k * i0.size + cs2.length)) = (cs ++ cs2) ++ junk.drop cs2.length := by
            rw [hs0, ← hlc]
            simp [List.drop_append]
          rw [e1]
          refine St.vec_mk (junk := junk.drop cs2.length) hroom (by rw [List.length_append, hlc, hl2, Nat.add_mul]) ?_ (hblk.setBlock' (o' := .cells ((cs ++ cs2) ++ junk.drop cs2.length).toArray e (0, 0)) (.here _ _) _ rfl rfl rfl fun j => ?_)
          · rw [List.length_append] at hlj
            simp only [List.length_append, List.length_drop]
            omega
          · simp only [World.setRow, Array.getElem?_modify]
            by_cases hj : j = b
            · subst hj; simp only [if_true]; rw [show w.heap[j]? = _ from hb1]; rfl
            · have hj' : ¬ b = j := fun e => hj e.symm
              simp [hj, hj']
        · have hfit := growslice_fits (need := k + m) (old := cap) (bytes := i0.bytes) (by omega) (by rw [hb0]; exact hb)
          have hrun := run_append_grow (P := P) w t ty e i0 z hu.out hi0 hz0 ⟨b, 0, none⟩ k cap cs (by rw [hs0]; exact hlc) holds ad m c2 cs2 (by rw [hs0]; exact hl2) hcell (by omega) (by omega) hfit
          refine ⟨(some ⟨w.heap.size, 0, none⟩, grownCap w (k + m) cap e), _, he.trans hrun, ?_⟩
          have hge := grownCap_ge w (k + m) cap e
          have hs' := (hs.drawn (w.drawn + 1)).alloc (.cells (cs.toArray ++ cs2.toArray ++ Builtin.zeroCells z.cells (grownCap w (k + m) cap e - (k + m))) e)
          have h4 : (cs.toArray ++ cs2.toArray ++ Builtin.zeroCells z.cells (grownCap w (k + m) cap e - (k + m))) = ((cs ++ cs2) ++ (Builtin.zeroCells z.cells (grownCap w (k + m) cap e - (k + m))).toList).toArray := by apply Array.ext'; simp
          have h5 : (k + m) * size ≤ grownCap w (k + m) cap e * size := Nat.mul_le_mul_right _ hge
          have h6 : (cs ++ cs2).length = (k + m) * size := by rw [List.length_append, hlc, hl2, Nat.add_mul]
          show St base (Vec e size (some ⟨w.heap.size, 0, none⟩) (k + m) (grownCap w (k + m) cap e) (cs ++ cs2) :: r1) _
          exact St.vec_mk hge h6 (by rw [List.length_append, junkl _ _ hge, h6]; omega) (hs'.ent fun _ y => lst_cons_mono (fun _ hh => by rw [← h4]; exact hh) (fun _ y => lst_drop (hr.out y)) y)
    obtain ⟨q, w', hrun, hst⟩ := main
    refine ⟨q, w', .inl ?_, hst⟩
    refine execOp_builtin fun C => ?_
    simp [builtin, h1, h2, hrun]
theorem opq_len {t e : TypeId} {x : Operand} {a : Option Addr} {k c : Nat} (hw : Want all ⟨dst, .call ⟨.builtin .len, #[x], #[t]⟩, ty, pos, af, g⟩ env) (hx : ev env x = some (.slice a k c)) [hu : UL P t (.slice e)] : OpQ r P all ⟨dst, .call ⟨.builtin .len, #[x], #[t]⟩, ty, pos, af, g⟩ n ds env lc (.int .i64 k) :=
  opq_pure hw (by simp) fun ac w ha => by
    have h1 := ha.ev (x := x) (by simp [Op.operands, Call.operands]) hx
    refine execOp_builtin fun C => ?_
    simp [builtin, h1, Builtin.len_, run_underlying hu.out, goInt]
end
end Go.Sl
