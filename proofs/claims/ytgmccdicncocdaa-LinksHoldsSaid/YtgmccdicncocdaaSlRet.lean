/- Ends of functions whose results lie in variables. For whatever program. -/
import Derived.Test.YtgmccdicncocdaaSlOps5
namespace Go.Sl
section
variable {P : Program} {base : World} {n : Nat} {env : Env} {l rest : List HP} {fn : Func} {α : Type} {val : α → Value} {post : α → List HP} {F : HP}
/-- One struct, in a variable. -/
theorem tk_ret1a {t b size : Nat} {T T' : TypeId} {vs : List Value} (hres : fn.results = #[.cell t T]) (hp : look env t = some (.pointer (some ⟨b, 0, none⟩))) [IAgg P T size] (hr : Rem l (obj b T' vs) rest) (hl : vs.length = size) (x : α) (hx : .agg vs.toArray = val x) (he : Ent l (post x ++ [F])) : TK base n [] (fnPost P base fn val post F .ret) env l :=
  tk_ret1 hres (Res.agg hp (rd_obj hr) hl) x hx he
/-- A struct, in a variable, and a value. -/
theorem tk_ret2a {t b size t2 : Nat} {T T' : TypeId} {vs : List Value} {v2 : Value} (hres : fn.results = #[.cell t T, .tmp t2]) (hp : look env t = some (.pointer (some ⟨b, 0, none⟩))) [IAgg P T size] (hr : Rem l (obj b T' vs) rest) (hl : vs.length = size) (h2 : look env t2 = some v2) (x : α) (hx : .tuple #[.agg vs.toArray, v2] = val x) (he : Ent l (post x ++ [F])) : TK base n [] (fnPost P base fn val post F .ret) env l :=
  tk_ret2 hres (Res.agg hp (rd_obj hr) hl) (Res.tmp h2) x hx he
/-- One value, in a variable. -/
theorem tk_ret1c {t b : Nat} {T T' : TypeId} {v : Value} (hres : fn.results = #[.cell t T]) (hp : look env t = some (.pointer (some ⟨b, 0, none⟩))) [NAgg P T] (hr : Rem l (obj b T' [v]) rest) (x : α) (hx : v = val x) (he : Ent l (post x ++ [F])) : TK base n [] (fnPost P base fn val post F .ret) env l :=
  tk_ret1 hres (Res.cell hp (rd_obj hr)) x hx he
end
end Go.Sl
