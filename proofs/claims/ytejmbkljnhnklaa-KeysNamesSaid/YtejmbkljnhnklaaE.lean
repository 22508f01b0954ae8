/-
  '==' and '!=' of arrays of bytes and of words.
-/
import Derived.Test.YtejmbkljnhnklaaA
namespace Go.PK
open Go.RowKit

theorem all_range_beq {α : Type} [BEq α] (d : α) : ∀ (xs ys : List α), xs.length = ys.length → ((List.range xs.length).all fun i => xs.getD i d == ys.getD i d) = (xs == ys)
  | [], [], _ => rfl
  | x :: xs, y :: ys, h => by
    have ih := all_range_beq d xs ys (by simpa using h)
    rw [List.length_cons, List.range_succ_eq_map, List.all_cons, List.all_map]
    simp only [List.getD_cons_zero, Function.comp_def, List.getD_cons_succ, ih]
    simp [List.cons_beq_cons]
  | [], _ :: _, h => by simp at h
  | _ :: _, [], h => by simp at h

section
variable {P : Program} {w : World}

theorem run_equalIn_arr {α : Type} [BEq α] (f : α → Value) (z : α) {t e : TypeId} {n : Nat} {k : IntKind} (ht : P.underlying t = some (.array n e)) (he : P.underlying e = some (.int k)) (hsz : (P.info? e).map (·.size) = some 1)
    (hf : ∀ d x y (w : World), (Op.equalIn (d + 1) e (f x) (f y)).run P w = .ok (x == y) w) (d : Nat) (xs ys : List α) (hx : xs.length = n) (hy : ys.length = n) :
    (Op.equalIn (d + 2) t (.agg (xs.map f).toArray) (.agg (ys.map f).toArray)).run P w = .ok (xs == ys) w := by
  have hsz' : ∀ w, (sizeOf e).run P w = .ok 1 w := by
    intro w
    cases hq : P.info? e with
    | none => simp [hq] at hsz
    | some i =>
      have : i.size = 1 := by simpa [hq] using hsz
      simp [sizeOf, typeInfo, hq, this]
  rw [← all_range_beq z xs ys (hx.trans hy.symm), hx, List.range_eq_range', Op.equalIn]
  simp only [Sem.run_bind, run_underlying ht, Result.andThen_ok, hsz', Std.Legacy.Range.forIn_eq_forIn_range', Std.Legacy.Range.size, Nat.sub_zero, Nat.add_sub_cancel, Nat.div_one]
  have hl : ∀ i ∈ List.range' 0 n 1, i < n := fun i hi => by simpa using (List.mem_range'_1.1 hi).2
  generalize List.range' 0 n 1 = l at hl ⊢
  induction l with
  | nil => simp
  | cons i l ih =>
    have hi : i < n := hl i (by simp)
    have px : (part e (xs.map f).toArray (i * 1)).run P w = .ok (f (xs.getD i z)) w := by
      simp [part, isAgg, run_underlying he, List.getD, List.getElem?_eq_getElem (show i < xs.length by omega)]
    have py : (part e (ys.map f).toArray (i * 1)).run P w = .ok (f (ys.getD i z)) w := by
      simp [part, isAgg, run_underlying he, List.getD, List.getElem?_eq_getElem (show i < ys.length by omega)]
    have pe := hf d (xs.getD i z) (ys.getD i z) w
    simp only [List.forIn_cons, Sem.run_bind, px, py, pe, Result.andThen_ok, List.all_cons]
    cases hb : (xs.getD i z == ys.getD i z)
    · simp
    · simp only [Bool.not_true, Bool.false_eq_true, if_false, Sem.run_pure, Result.andThen_ok, Bool.true_and]
      exact ih fun j hj => hl j (by simp [hj])

theorem equalIn_B8 {e : TypeId} (he : P.underlying e = some (.int .u8)) (d : Nat) (x y : UInt8) (w : World) : (Op.equalIn (d + 1) e (B8 x) (B8 y)).run P w = .ok (x == y) w := by
  unfold B8
  rw [run_equalIn_int w d e .u8 .u8 _ _ he, nat_beq_cast]
  congr 1
  rw [Bool.eq_iff_iff]; simp [UInt8.toNat_inj]
theorem equalIn_W32 {e : TypeId} (he : P.underlying e = some (.int .u32)) (d : Nat) (x y : UInt32) (w : World) : (Op.equalIn (d + 1) e (W32 x) (W32 y)).run P w = .ok (x == y) w := by
  unfold W32
  rw [run_equalIn_int w d e .u32 .u32 _ _ he, nat_beq_cast]
  congr 1
  rw [Bool.eq_iff_iff]; simp [UInt32.toNat_inj]

/-- x == y, x != y of values that are aggregates, out of what 'equalIn' comes to -/
theorem wp_eql_agg {o : Oper} {a : Act} {K : Act → World → Prop} {Q : Exit → Act → World → Prop} (ty yt : TypeId) (x y : Operand) (ho : o.op = .binOp .eql ty x y yt) (A B : Array Value) (hx : a.eval x = .agg A) (hy : a.eval y = .agg B)
    (hg : P.eqGuardType P.depth ty = false) (b : Bool) (h : (Op.equalIn 10000 ty (.agg A) (.agg B)).run P w = .ok b w) (hK : K (a.put o.dst (.bool b)) w) : o.wp P a w K Q := by
  unfold Oper.wp execOp
  simp only [ho, hx, hy, Sem.run_bind, Sem.run_pure, Result.andThen_ok, run_eqGuard_agg w .eql ty x y A B hg, run_eql_struct, h]
  exact hK
theorem wp_neq_agg {o : Oper} {a : Act} {K : Act → World → Prop} {Q : Exit → Act → World → Prop} (ty yt : TypeId) (x y : Operand) (ho : o.op = .binOp .neq ty x y yt) (A B : Array Value) (hx : a.eval x = .agg A) (hy : a.eval y = .agg B)
    (hg : P.eqGuardType P.depth ty = false) (b : Bool) (h : (Op.equalIn 10000 ty (.agg A) (.agg B)).run P w = .ok b w) (hK : K (a.put o.dst (.bool (!b))) w) : o.wp P a w K Q := by
  unfold Oper.wp execOp
  simp only [ho, hx, hy, Sem.run_bind, Sem.run_pure, Result.andThen_ok, run_eqGuard_agg w .neq ty x y A B hg, run_neq_struct, h]
  exact hK
theorem wpList_eql_agg {o : Oper} {a : Act} {ops : Array Oper} {rest : List Oper} {Q : Exit → Act → World → Prop} (hgd : o.guard = none) (ty yt : TypeId) (x y : Operand) (ho : o.op = .binOp .eql ty x y yt) (A B : Array Value) (hx : a.eval x = .agg A) (hy : a.eval y = .agg B)
    (hg : P.eqGuardType P.depth ty = false) (b : Bool) (h : (Op.equalIn 10000 ty (.agg A) (.agg B)).run P w = .ok b w) (hK : wpList P ops Q rest (a.put o.dst (.bool b)) w) : wpList P ops Q (o :: rest) a w :=
  wpList_plain hgd fun _ hk => wp_eql_agg ty yt x y ho A B hx hy hg b h (hk _ _ hK)
theorem wpList_neq_agg {o : Oper} {a : Act} {ops : Array Oper} {rest : List Oper} {Q : Exit → Act → World → Prop} (hgd : o.guard = none) (ty yt : TypeId) (x y : Operand) (ho : o.op = .binOp .neq ty x y yt) (A B : Array Value) (hx : a.eval x = .agg A) (hy : a.eval y = .agg B)
    (hg : P.eqGuardType P.depth ty = false) (b : Bool) (h : (Op.equalIn 10000 ty (.agg A) (.agg B)).run P w = .ok b w) (hK : wpList P ops Q rest (a.put o.dst (.bool (!b))) w) : wpList P ops Q (o :: rest) a w :=
  wpList_plain hgd fun _ hk => wp_neq_agg ty yt x y ho A B hx hy hg b h (hk _ _ hK)
end
end Go.PK
