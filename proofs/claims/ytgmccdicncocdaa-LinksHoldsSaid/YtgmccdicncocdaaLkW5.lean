/- links, walked: the nodes of a list. -/
import Derived.Test.YtgmccdicncocdaaLkW1
namespace Go.Proofs.Ytgmccdicncocdaa
open Go.Sl Go.Lk
attribute [local irreducible] TK TL TC Th Bk Nx fnPost WA TQ OpQ OpN SpecH Rd Ent IterH RoundH Rb Rp fnPostM
set_option maxHeartbeats 2000000 in
theorem all_some (p : Nat) (s : LS) (g : GoodL s) (k : Nat) (hk : k < s.M) (ns : List Nat) (hf : follows s.nx (s.N + k) (s.nx (s.N + k)) ns) (hlen : ns.length ≤ 4194304) :
    SpecH Try.prog 43 #[.pointer (some ⟨p, 0, none⟩), .int .i64 k] [LinksAt p s] (fun q : Option Addr × Nat => .slice q.1 ns.length q.2) (fun q => [LinksAt p s, Vec 35 1 q.1 ns.length q.2 (u32s ns)]) := by
  have g1 := g.n1; have g2 := g.n2; have g3 := g.m1; have g4 := g.m2
  have eL : listE s.M k = 0 := by unfold listE; rw [if_neg (by omega)]
  have hnx := g.nx (s.N + k) (by omega)
  refine spec_of Try.func43 rfl Try.ntmps43 rfl [(0, _), (1, _)] rfl ?_; intro base F l0 hl0; (try simp only [List.cons_append] at hl0); (try simp only [List.nil_append] at hl0); subst hl0
  refine LinksAt.openC (by omega) (by omega) fun b cf b2 cl => ?_
  repeat' (first | refine st ?_ | refine And.intro ?_ ?_ | (intro e; subst e) | intro _)
  refine tc_lp [6, 7] (fun e (x : { x : (List Nat × List Nat) × Nat × Option Addr × Nat // x.1.1 ++ x.1.2 = ns ∧ follows s.nx (s.N + k) x.2.1 x.1.2 ∧ x.2.1 < s.N + s.M }) => (6, .slice x.1.2.2.1 x.1.1.1.length x.1.2.2.2) :: (7, .int .u32 x.1.2.1) :: e)
    (fun x => [obj p 69 [.slice (some ⟨b, 0, none⟩) (s.N + s.M) cf, .int .i64 s.N, .slice (some ⟨b2, 0, none⟩) s.M cl], Vec 77 3 (some ⟨b, 0, none⟩) (s.N + s.M) cf (encF (s.N + s.M) s.pv s.nx s.of), Vec 3 1 (some ⟨b2, 0, none⟩) s.M cl (encL s.M s.ln), Vec 35 1 x.1.2.2.1 x.1.1.1.length x.1.2.2.2 (u32s x.1.1.1), F])
    (fun x => x.1.1.2.length) ⟨(([], ns), s.nx (s.N + k), none, 0), rfl, hf, hnx⟩ ?_
  rintro K ⟨⟨⟨d, rest⟩, cur, a, cap⟩, h1, h2, h3⟩ hK
  dsimp only at h1 h2 h3 ⊢
  cases rest with
  | nil =>
    have h6 : cur = s.N + k := h2
    subst h6
    simp only [List.append_nil] at h1
    subst h1
    repeat' (first | refine st ?_ | refine And.intro ?_ ?_ | (intro e; subst e) | intro _)
    exact rt1 (a, cap) rfl (en2 LinksAt.shut)
  | cons m rest =>
    obtain ⟨rfl, h6, h7⟩ := h2
    have h8 : (d ++ cur :: rest).length = d.length + 1 + rest.length := by simp; omega
    rw [h1] at h8
    have h9 := g.nx cur h3
    repeat' (first | refine st ?_ | refine And.intro ?_ ?_ | (intro e; subst e) | intro _)
    rename_i qa qc
    have e : u32s d ++ [.int .u32 (cur : Nat)] = u32s (d ++ [cur]) := (u32s_append d [cur]).symm
    rw [e]
    have e2 : d.length + 1 = (d ++ [cur]).length := by simp
    rw [e2]
    exact again hK ⟨((d ++ [cur], rest), s.nx cur, qa, qc), by simp [h1], h7, h9⟩ (by simp)
end Go.Proofs.Ytgmccdicncocdaa
