/-
  Scripts over objects: the rows of their pointers and of their kept rows of bytes, the objects, the pool; what one step does to them; a slice's push of one element.
-/
import Derived.Test.YtejmbkljnhnklaaAp
import Derived.Test.YtejmbkljnhnklaaOp3
namespace Go.PK
open Go.RowKit
/-- an object: its block, its cells, the row of bytes that is kept beside it -/
structure Sd where
  g : Nat
  C : List Value
  r : PR
def Sd.p (d : Sd) : Value := .pointer (some ⟨d.g, 0, none⟩)
def Sd.v (d : Sd) : Value := d.r.v
def Sd.obj (t : TypeId) (N : Nat) (d : Sd) : Blk := ⟨some d.g, t, d.C, N⟩
section
variable {G : List Nat} {w0 w : World} {t u tp tr : TypeId} {N cP cA : Nat} {oP oA : Option Nat} {ds : List Sd} {ps : List PR} {Z : List Blk}
theorem set_same {α β : Type} (f : α → β) : ∀ {l : List α} {k : Nat} {x y : α}, l[k]? = some x → f y = f x → (l.set k y).map f = l.map f
  | [], _, _, _, h, _ => by simp at h
  | a :: l, 0, x, y, h, e => by
    simp at h
    subst h
    simp [e]
  | a :: l, k + 1, x, y, h, e => by
    rw [List.set_cons_succ, List.map_cons, List.map_cons, set_same f (by simpa using h) e]
theorem set_map {α β : Type} (f : α → β) (l : List α) (k : Nat) (y : α) : (l.set k y).map f = (l.map f).set k (f y) := by rw [List.map_set]
/-- a new object -/
theorem Mem.sc_new {d : Sd} (hM : Mem G w0 w (Sd.obj t N d :: ⟨oP, tp, ds.map Sd.p ++ [d.p], cP⟩ :: ⟨oA, tr, ds.map Sd.v ++ [d.v], cA⟩ :: (ds.map (Sd.obj t N) ++ ps.map (PR.blk u)))) :
    Mem G w0 w (⟨oP, tp, (ds ++ [d]).map Sd.p, cP⟩ :: ⟨oA, tr, (ds ++ [d]).map Sd.v, cA⟩ :: ((ds ++ [d]).map (Sd.obj t N) ++ ps.map (PR.blk u))) := by
  have := Mem.push_obj (A := [⟨oP, tp, ds.map Sd.p ++ [d.p], cP⟩, ⟨oA, tr, ds.map Sd.v ++ [d.v], cA⟩]) hM
  rw [List.map_append (f := Sd.p), List.map_append (f := Sd.v)]
  exact this
/-- an object was written to, and the row beside it is a new one -/
theorem Mem.sc_wrote {k : Nat} {d d' : Sd} {r : PR} {C' : List Value} (hk : ds[k]? = some d) (hd : d' = ⟨d.g, C', r⟩)
    (hM : Mem G w0 w (PR.blk u r :: ⟨oP, tp, ds.map Sd.p, cP⟩ :: ⟨oA, tr, (ds.map Sd.v).set k r.v, cA⟩ :: ((ds.set k ⟨d.g, C', d.r⟩).map (Sd.obj t N) ++ ps.map (PR.blk u)))) :
    Mem G w0 w (⟨oP, tp, (ds.set k d').map Sd.p, cP⟩ :: ⟨oA, tr, (ds.set k d').map Sd.v, cA⟩ :: ((ds.set k d').map (Sd.obj t N) ++ (ps ++ [r]).map (PR.blk u))) := by
  subst hd
  have := Mem.push_row (A := [⟨oP, tp, ds.map Sd.p, cP⟩, ⟨oA, tr, (ds.map Sd.v).set k r.v, cA⟩]) hM
  rw [set_same (y := ⟨d.g, C', r⟩) Sd.p hk rfl, set_map Sd.v, set_map (Sd.obj t N)]
  rw [set_map (Sd.obj t N)] at this
  exact this
end
/-- a step of a script, in every later world -/
theorem step_later {w : World} {ao : Option Addr} {n cap : Nat} {l : List Step} (h : (rSlice rOp).K w [.slice ao n cap] l) {k : Nat} (hk : k < l.length) :
    ∃ b off vB, ao = some ⟨b, off, none⟩ ∧ ∀ w', Adds w w' → w'.cell? ⟨b, off + k * 3, none⟩ = some (.int .i64 l[k].1) ∧ w'.cell? ⟨b, off + (k * 3 + 1), none⟩ = some (.int .i64 l[k].2.1) ∧ w'.cell? ⟨b, off + (k * 3 + 2), none⟩ = some vB ∧ Bytes w' vB l[k].2.2 := by
  obtain ⟨b, off, vB, rfl, hb, h0, h1, h2, h3⟩ := step_cells h hk
  refine ⟨b, off, vB, rfl, fun w' hw => ⟨?_, ?_, ?_, h3.adds hw⟩⟩
  · rw [cell_below hw (by exact hb)]; exact h0
  · rw [cell_below hw (by exact hb)]; exact h1
  · rw [cell_below hw (by exact hb)]; exact h2
section
variable {P : Program} {Q : Exit → Act → World → Prop} {ops : Array Oper} {rest : List Oper} {a : Act} {w : World} {G : List Nat} {w0 : World} {L : List Blk} {dst : Option Tmp} {type : TypeId} {pos : String} {after : Array Edge}
/-- append(s, x) of one element of one cell -/
theorem gL_push (hM : Mem G w0 w L) {s x : Operand} {t : TypeId} (h : ∃ (v u : Value) (ob : Option Nat) (n cap : Nat) (e : TypeId) (bytes : Nat) (C : List Value) (X : Value) (L' : Option Nat → Nat → List Blk), a.eval s = v ∧ a.eval x = u ∧ v = sl ob n cap ∧ P.underlying t = some (.slice e) ∧ El P e 1 bytes ∧ Src w u 1 [X] ∧
    (∀ ob' cap', Swap L ⟨ob, e, C, cap * 1⟩ ⟨ob', e, C ++ [X], cap' * 1⟩ (L' ob' cap')) ∧ Len C n ∧ X.oneCell' = true ∧ cap ≤ maxLen ∧ n + 1 ≤ maxLen ∧ (n + 1) * bytes ≤ 140737488355328 ∧
    ∀ ob' cap' w', Mem G w0 w' (L' ob' cap') → n + 1 ≤ cap' → cap' ≤ maxLen → wpList P ops Q rest (a.put dst (sl ob' (n + 1) cap')) w') :
    wpList P ops Q (Oper.mk dst (.call { callee := .builtin .append, args := #[s, x], argTypes := #[t, t] }) type pos after none :: rest) a w :=
  let ⟨_, _, _, _, _, _, _, _, _, _, h1, h2, h3, h4, h5, h6, h7, h8, h9, h10, h11, h12, h13⟩ := h
  wpList_plain rfl fun _ hk => hM.wp_append rfl (h1.trans h3) h4 h5 h7 rfl (by rw [h8.eq, Nat.mul_one]) h10 h2 h6 rfl (fun v hv => by simp at hv; subst hv; exact h9) h11 h12 fun ob' cap' w' g1 g2 g3 => hk _ _ (h13 ob' cap' w' g1 g2 g3)
end
/-- k % n, as Go's program brings it into 0 .. n-1 -/
def wrapI (o : Int) (n : Nat) : Nat := (if o.tmod n < 0 then o.tmod n + n else o.tmod n).toNat
theorem wrapI_lt (o : Int) {n : Nat} (h : 0 < n) : wrapI o n < n := by
  unfold wrapI
  have h1 := Int.tmod_lt_of_pos o (b := (n : Int)) (by omega)
  have h2 := Int.lt_tmod_of_pos o (b := (n : Int)) (by omega)
  split <;> omega
theorem wrapI_neg {o : Int} {n : Nat} (hn : 0 < n) (h : o.tmod n < 0) : o.tmod n + n = (wrapI o n : Int) := by
  unfold wrapI
  have h2 := Int.lt_tmod_of_pos o (b := (n : Int)) (by omega)
  rw [if_pos h]
  omega
theorem wrapI_pos {o : Int} {n : Nat} (h : ¬ o.tmod n < 0) : o.tmod n = (wrapI o n : Int) := by
  unfold wrapI
  rw [if_neg h]
  omega
end Go.PK
