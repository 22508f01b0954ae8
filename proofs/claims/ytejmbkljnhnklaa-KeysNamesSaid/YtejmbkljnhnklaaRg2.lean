/-
  A drawn region's operations: slices, comparisons of values of several cells.
-/
import Derived.Test.YtejmbkljnhnklaaReg
import Derived.Test.YtejmbkljnhnklaaCp
namespace Go.PK
open Go.RowKit
section
variable {P : Program} {o : Oper} {w : World} {R : Value → World → Prop} {ρ : Operand → Value}
theorem makes_slice {t : TypeId} {x : Operand} {lo hi mx : Option Operand} {X v : Value} {LO HI MX : Option Value} (h : Sliced P t X LO HI MX v) (ho : o.op = .slice t x lo hi mx) (hx : ρ x = X) (hlo : lo.map ρ = LO) (hhi : hi.map ρ = HI) (hmx : mx.map ρ = MX) (hR : R v w) : Makes P ρ o w R := by
  refine makes_value (v := v) ?_ hR
  unfold execOp
  simp only [ho, hx, hlo, hhi, hmx, Sem.run_bind, Sem.run_pure, Result.andThen_ok, h w]
theorem makes_neq {ty yt : TypeId} {x y : Operand} {A B : Array Value} {b : Bool} (hE : EqTo P ty A B b) (ho : o.op = .binOp .neq ty x y yt) (hx : ρ x = .agg A) (hy : ρ y = .agg B) (hR : R (.bool (!b)) w) : Makes P ρ o w R := by
  refine makes_value (v := .bool (!b)) ?_ hR
  unfold execOp
  simp only [ho, hx, hy, Sem.run_bind, Sem.run_pure, Result.andThen_ok, run_eqGuard_agg w .neq ty x y A B hE.1, run_neq_struct, hE.2 w]
theorem makes_eql {ty yt : TypeId} {x y : Operand} {A B : Array Value} {b : Bool} (hE : EqTo P ty A B b) (ho : o.op = .binOp .eql ty x y yt) (hx : ρ x = .agg A) (hy : ρ y = .agg B) (hR : R (.bool b) w) : Makes P ρ o w R := by
  refine makes_value (v := .bool b) ?_ hR
  unfold execOp
  simp only [ho, hx, hy, Sem.run_bind, Sem.run_pure, Result.andThen_ok, run_eqGuard_agg w .eql ty x y A B hE.1, run_eql_struct, hE.2 w]
end
end Go.PK
