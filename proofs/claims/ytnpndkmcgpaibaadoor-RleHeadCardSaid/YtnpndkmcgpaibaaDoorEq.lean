/- '==' of the program's structs, as one Bool: items (type 37) and cells (type 89). -/
import Derived.Test.YtnpndkmcgpaibaaDoorProg
import Derived.WalkKit
import Derived.Laws.StructEq
set_option linter.unusedVariables false
namespace Go.Proofs.YtnpndkmcgpaibaaDoor
open Go.RowKit
section
variable {P : Program} {d : Nat} {xs ys : Array Value} {f : Field} {fs : List Field} {a b : Value} {r s : Bool} {w : World}
theorem fieldsEq_one (hn : f.name ≠ "_") (ha : (part f.type xs f.offset).run P w = .ok a w) (hb : (part f.type ys f.offset).run P w = .ok b w) (he : (Op.equalIn d f.type a b).run P w = .ok r w)
    (hr : (Op.eqFields d xs ys fs).run P w = .ok s w) : (Op.eqFields d xs ys (f :: fs)).run P w = .ok (r && s) w := by
  rw [Op.eqFields, if_pos hn]
  simp only [Sem.run_bind, ha, hb, he, Result.andThen_ok]
  cases r
  · simp
  · simpa using hr
theorem fieldsEq_nil : (Op.eqFields d xs ys []).run P w = .ok true w := by simp [Op.eqFields]
theorem structEq_of {t : TypeId} {fs : Array Field} (hu : P.underlying t = some (.struct fs)) (hp : P.stoodInHeld t = false) (h : (Op.eqFields d xs ys fs.toList).run P w = .ok r w) : (Op.equalIn (d + 1) t (.agg xs) (.agg ys)).run P w = .ok r w := by
  have hf : P.fieldsOf t = fs := by simp [Program.fieldsOf, hu]
  rw [run_equalIn_struct (P := P) w d t xs ys (by rw [hf]; exact hu) hp, hf]
  exact h
end
theorem eqA37 (d : Nat) (w : World) (x0 y0 x1 y1 x2 y2 : Int) :
    (Op.equalIn (d + 2) 37 (.agg #[.int .u8 x0, .int .i64 x1, .int .i64 x2]) (.agg #[.int .u8 y0, .int .i64 y1, .int .i64 y2])).run Tryd.prog w = .ok (x0 == y0 && (x1 == y1 && (x2 == y2 && true))) w := by
  refine structEq_of Tryd.underlying37 (by kernel_rfl) ?_
  refine fieldsEq_one (by simp) (by go_simp; rfl) (by go_simp; rfl) (by go_simp) ?_
  refine fieldsEq_one (by simp) (by go_simp; rfl) (by go_simp; rfl) (by go_simp) ?_
  exact fieldsEq_one (by simp) (by go_simp; rfl) (by go_simp; rfl) (by go_simp) fieldsEq_nil
theorem eqA89 (d : Nat) (w : World) (x0 y0 x1 y1 : Int) :
    (Op.equalIn (d + 2) 89 (.agg #[.int .i64 x0, .int .i64 x1]) (.agg #[.int .i64 y0, .int .i64 y1])).run Tryd.prog w = .ok (x0 == y0 && (x1 == y1 && true)) w := by
  refine structEq_of Tryd.underlying89 (by kernel_rfl) ?_
  refine fieldsEq_one (by simp) (by go_simp; rfl) (by go_simp; rfl) (by go_simp) ?_
  exact fieldsEq_one (by simp) (by go_simp; rfl) (by go_simp; rfl) (by go_simp) fieldsEq_nil
end Go.Proofs.YtnpndkmcgpaibaaDoor
