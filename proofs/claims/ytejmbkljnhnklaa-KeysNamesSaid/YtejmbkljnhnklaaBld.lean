/-
  Steps of the walk: a value put together of parts; numbers of kind uint64.
-/
import Derived.Test.YtejmbkljnhnklaaScript
namespace Go.PK
open Go.RowKit
section
variable {P : Program} {Q : Exit → Act → World → Prop} {ops : Array Oper} {rest : List Oper} {a : Act} {K : Act → World → Prop} {o : Oper}
variable {dst : Option Tmp} {type : TypeId} {pos : String} {after : Array Edge} {j : Nat} {want : Bool}
def Builds (P : Program) (ty : TypeId) (vals : List (Nat × Value)) (v : Value) : Prop := ∀ w, (Instr.build ty vals.toArray).run P w = .ok v w
theorem wp_build_of {w : World} {ty : TypeId} {parts : List (Nat × Operand)} {vals : List (Nat × Value)} {v : Value} (ho : o.op = .build ty parts.toArray) (hp : (parts.map fun p => (p.1, a.eval p.2)) = vals) (h : Builds P ty vals v) (hK : K (a.put o.dst v) w) : o.wp P a w K Q := by
  unfold Oper.wp execOp
  simp only [ho, List.map_toArray, Sem.run_bind, Sem.run_pure, Result.andThen_ok, hp, h w]
  exact hK
theorem wpL_build {w : World} {ty : TypeId} {parts : List (Nat × Operand)} {vals : List (Nat × Value)} {v : Value} (hp : (parts.map fun p => (p.1, a.eval p.2)) = vals) (h : Builds P ty vals v) (hK : wpList P ops Q rest (a.put dst v) w) :
    wpList P ops Q (Oper.mk dst (.build ty parts.toArray) type pos after none :: rest) a w := wpList_plain rfl fun _ hk => wp_build_of rfl hp h (hk _ _ hK)
theorem gL_build {w : World} {ty : TypeId} {parts : List (Nat × Operand)} (h : ∃ vals v, (parts.map fun p => (p.1, a.eval p.2)) = vals ∧ Builds P ty vals v ∧ wpList P ops Q rest (a.put dst v) w) :
    wpList P ops Q (Oper.mk dst (.build ty parts.toArray) type pos after none :: rest) a w := let ⟨_, _, h1, h2, h3⟩ := h; wpL_build h1 h2 h3

/-- the rest of uint64 numbers -/
@[go_sem] theorem bin_rem_W64 (t : TypeId) (x y : UInt64) (hy : y ≠ 0) : binOp .rem t (W64 x) (W64 y) = pure (W64 (x % y)) := by
  have hy' : ((y.toNat : Nat) : Int) ≠ 0 := by
    intro h
    exact hy (UInt64.toNat_inj.1 (by simpa using h))
  unfold W64
  simp only [binOp, Op.intDiv, if_neg hy']
  congr 2
end
end Go.PK
