/-
  A drawn region's operations, each by what it makes of its operands; the frame is not looked at.
-/
import Derived.Test.YtejmbkljnhnklaaTail
namespace Go.PK
open Go.RowKit
section
variable {P : Program} {Q : Exit → Act → World → Prop}
/-- what an operation makes of its operands -/
def Makes (P : Program) (ρ : Operand → Value) (o : Oper) (w : World) (R : Value → World → Prop) : Prop :=
  (∃ v w', (execOp ρ o).run P w = .ok (.value v) w' ∧ R v w') ∨ (∃ w', (execOp ρ o).run P w = .ok .skip w' ∧ R undef w') ∨
  ∃ f args, (execOp ρ o).run P w = .ok (.enter f args) w ∧ Calls P f args w fun e w'' => ∃ v, e = .returned v ∧ R v w''
variable {o : Oper} {w : World} {R : Value → World → Prop} {ρ : Operand → Value} {a : Act} {K : Act → World → Prop}
theorem Makes.wp (h : Makes P a.eval o w R) (hK : ∀ v w', R v w' → K (a.put o.dst v) w') : o.wp P a w K Q := by
  unfold Oper.wp
  rcases h with ⟨v, w', hr, hR⟩ | ⟨w', hr, hR⟩ | ⟨f, args, hr, hc⟩
  · rw [hr, Oper.upon_value]
    exact hK _ _ hR
  · rw [hr, Oper.upon_skip]
    exact hK _ _ hR
  · rw [hr, Oper.upon_enter]
    refine hc.mono ?_
    rintro e w'' ⟨v, rfl, hR⟩
    exact hK _ _ hR
theorem makes_value {v : Value} (hr : (execOp ρ o).run P w = .ok (.value v) w) (hR : R v w) : Makes P ρ o w R := .inl ⟨v, w, hr, hR⟩
theorem makes_call {f : FuncId} {args : Array Value} {S : Ending → World → Prop} (hc : Calls P f args w S) (hr : (execOp ρ o).run P w = .ok (.enter f args) w) (hR : ∀ e w', S e w' → ∃ v, e = .returned v ∧ R v w') : Makes P ρ o w R :=
  .inr (.inr ⟨f, args, hr, hc.mono hR⟩)
theorem makes_load {ty : TypeId} {x : Operand} {ad : Addr} {v : Value} (h : Loads P w ty ad v) (ho : o.op = .load ty x) (hx : ρ x = .pointer (some ad)) (hR : R v w) : Makes P ρ o w R := by
  refine makes_value (v := v) ?_ hR
  unfold Loads at h
  unfold execOp
  simp only [ho, hx, Instr.loadAt, Instr.sureAddr, Sem.run_bind, Sem.run_pure, Result.andThen_ok, h]
theorem makes_move {x : Operand} {v : Value} (ho : o.op = .move x ∨ o.op = .assign x) (hx : ρ x = v) (hR : R v w) : Makes P ρ o w R := by
  refine makes_value (v := v) ?_ hR
  unfold execOp
  rcases ho with ho | ho <;> simp only [ho, hx, Sem.run_pure]
theorem makes0 (h : ∀ ρ : Operand → Value, (∀ v, ρ (.const v) = v) → (∀ f, ρ (.func f) = .func (.func f) #[] #[]) → Makes P ρ o w R) : Makes P a.eval o w R := h a.eval (fun _ => rfl) (fun _ => rfl)
theorem makes1 {x : Operand} {X : Value} (hx : a.eval x = X) (h : ∀ ρ : Operand → Value, (∀ v, ρ (.const v) = v) → (∀ f, ρ (.func f) = .func (.func f) #[] #[]) → ρ x = X → Makes P ρ o w R) : Makes P a.eval o w R := h a.eval (fun _ => rfl) (fun _ => rfl) hx
theorem makes2 {x y : Operand} {X Y : Value} (hx : a.eval x = X) (hy : a.eval y = Y) (h : ∀ ρ : Operand → Value, (∀ v, ρ (.const v) = v) → (∀ f, ρ (.func f) = .func (.func f) #[] #[]) → ρ x = X → ρ y = Y → Makes P ρ o w R) : Makes P a.eval o w R := h a.eval (fun _ => rfl) (fun _ => rfl) hx hy
theorem makes3 {x y z : Operand} {X Y Z : Value} (hx : a.eval x = X) (hy : a.eval y = Y) (hz : a.eval z = Z) (h : ∀ ρ : Operand → Value, (∀ v, ρ (.const v) = v) → (∀ f, ρ (.func f) = .func (.func f) #[] #[]) → ρ x = X → ρ y = Y → ρ z = Z → Makes P ρ o w R) : Makes P a.eval o w R := h a.eval (fun _ => rfl) (fun _ => rfl) hx hy hz
theorem makes4 {x y z t : Operand} {X Y Z T : Value} (hx : a.eval x = X) (hy : a.eval y = Y) (hz : a.eval z = Z) (ht : a.eval t = T) (h : ∀ ρ : Operand → Value, (∀ v, ρ (.const v) = v) → (∀ f, ρ (.func f) = .func (.func f) #[] #[]) → ρ x = X → ρ y = Y → ρ z = Z → ρ t = T → Makes P ρ o w R) : Makes P a.eval o w R := h a.eval (fun _ => rfl) (fun _ => rfl) hx hy hz ht

variable {ops : Array Oper} {fr : (Nat → Value) → (Nat → Value) → Act} {X : (Nat → Value) → Prop} {C : World → Prop} {Φs : List (Value → World → Prop)} {D : List (List Nat)} {As : List Nat}
def ShowA (P : Program) (ops : Array Oper) (Q : Exit → Act → World → Prop) (fr : (Nat → Value) → (Nat → Value) → Act) (X : (Nat → Value) → Prop) (C : World → Prop) (Φs : List (Value → World → Prop)) (D : List (List Nat)) (As : List Nat) (k : Nat) (o : Oper) : Prop :=
  (∀ c vals v, (fr c vals).put o.dst v = fr c (upd vals k v)) ∧
     ∀ c, X c → ∀ vals w, C w → (∀ j, (D.getD k []).contains j = true → Φs.getD j (fun _ _ => True) (vals j) w) →
      ∀ K : Act → World → Prop, (∀ v w', Adds w w' → Φs.getD k (fun _ _ => True) v w' → (As.contains k = true → v = .pointer (some ⟨w.heap.size, 0, none⟩) ∧ w.heap.size < w'.heap.size) → K (fr c (upd vals k v)) w') →
       if Region.wanted o (yielded ops (fr c vals).tmps) = true then o.wp P (fr c vals) w K Q else K ((fr c vals).put o.dst undef) w
theorem showA_of (k : Nat) (hput : ∀ c vals v, (fr c vals).put o.dst v = fr c (upd vals k v)) (hA : As.contains k = false)
    (h : ∀ c vals w, C w → (∀ j, (D.getD k []).contains j = true → Φs.getD j (fun _ _ => True) (vals j) w) → Region.wanted o (yielded ops (fr c vals).tmps) = true ∧ Makes P (fr c vals).eval o w fun v w' => Adds w w' ∧ Φs.getD k (fun _ _ => True) v w') :
    ShowA P ops Q fr X C Φs D As k o := by
  refine ⟨hput, fun c _ vals w hC hD K hK => ?_⟩
  obtain ⟨hw, hm⟩ := h c vals w hC hD
  rw [if_pos hw]
  refine hm.wp fun v w' hR => ?_
  rw [hput]
  exact hK v w' hR.1 hR.2 (fun h => by rw [hA] at h; cases h)
theorem showA_op (k : Nat) (hput : ∀ c vals v, (fr c vals).put o.dst v = fr c (upd vals k v)) (hg : o.guard = none) (hA : As.contains k = false)
    (h : ∀ c vals w, C w → (∀ j, (D.getD k []).contains j = true → Φs.getD j (fun _ _ => True) (vals j) w) → Makes P (fr c vals).eval o w fun v w' => Adds w w' ∧ Φs.getD k (fun _ _ => True) v w') :
    ShowA P ops Q fr X C Φs D As k o :=
  showA_of k hput hA fun c vals w hC hD => ⟨wanted_none hg, h c vals w hC hD⟩
/-- a guarded operation that runs -/
theorem showA_run (k : Nat) (hput : ∀ c vals v, (fr c vals).put o.dst v = fr c (upd vals k v)) {j : Nat} {want : Bool} {oj : Oper} {d : Nat} (hg : o.guard = some (j, want)) (hj : ops[j]? = some oj) (hd : oj.dst = some d)
    (hv : ∀ c vals, (fr c vals).tmps[d]? = some (vals j)) (hA : As.contains k = false)
    (h : ∀ c vals w, C w → (∀ j, (D.getD k []).contains j = true → Φs.getD j (fun _ _ => True) (vals j) w) → vals j = .bool want ∧ Makes P (fr c vals).eval o w fun v w' => Adds w w' ∧ Φs.getD k (fun _ _ => True) v w') :
    ShowA P ops Q fr X C Φs D As k o :=
  showA_of k hput hA fun c vals w hC hD => ⟨wanted_of hg hj hd (hv c vals) (h c vals w hC hD).1, (h c vals w hC hD).2⟩
/-- .. and one that doesn't -/
theorem showA_not (k : Nat) (hput : ∀ c vals v, (fr c vals).put o.dst v = fr c (upd vals k v)) {j : Nat} {want : Bool} {oj : Oper} {d : Nat} (hg : o.guard = some (j, want)) (hj : ops[j]? = some oj) (hd : oj.dst = some d)
    (hv : ∀ c vals, (fr c vals).tmps[d]? = some (vals j)) (hA : As.contains k = false)
    (h : ∀ (vals : Nat → Value) w, C w → (∀ j, (D.getD k []).contains j = true → Φs.getD j (fun _ _ => True) (vals j) w) → vals j = .bool (!want) ∧ Φs.getD k (fun _ _ => True) undef w) :
    ShowA P ops Q fr X C Φs D As k o := by
  refine ⟨hput, fun c _ vals w hC hD K hK => ?_⟩
  obtain ⟨h1, h2⟩ := h vals w hC hD
  refine ite_no (unwanted_of hg hj hd (hv c vals) h1) ?_
  rw [hput]
  exact hK _ w (Adds.refl _) h2 (fun h => by rw [hA] at h; cases h)
end
end Go.PK
