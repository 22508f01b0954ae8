/-
  Guarded steps of the walk: a slice of bytes put together, an append of bytes.
-/
import Derived.Test.YtejmbkljnhnklaaScript
namespace Go.PK
open Go.RowKit
section
variable {P : Program} {Q : Exit → Act → World → Prop} {ops : Array Oper} {rest : List Oper} {a : Act} {G : List Nat} {w0 w : World} {L : List Blk}
variable {dst : Option Tmp} {type : TypeId} {pos : String} {after : Array Edge} {j : Nat} {want : Bool}
theorem gG_buildBytes (hM : Mem G w0 w L) {t : TypeId} {len : Nat} {parts : List (Nat × Operand)} (hw : Region.wanted (Oper.mk dst (.buildSlice t len parts.toArray) type pos after (some (j, want))) (yielded ops a.tmps) = true)
    (h : ∃ e bs, P.underlying t = some (.slice e) ∧ El P e 1 1 ∧ len * 1 ≤ 16777216 ∧ 0 < len ∧ parts.map (·.1) = List.range' 0 len ∧ EvB a parts bs ∧
    ∀ g w', Mem G w0 w' (⟨some g, e, bs.map B8, len⟩ :: L) → wpList P ops Q rest (a.put dst (.slice (some ⟨g, 0, none⟩) len len)) w') :
    wpList P ops Q (Oper.mk dst (.buildSlice t len parts.toArray) type pos after (some (j, want)) :: rest) a w :=
  let ⟨_, _, h1, h2, h3, h4, h5, h6, h7⟩ := h; wpList_wanted hw (hM.wp_buildBytes rfl h1 h2 h3 h4 h5 h6 rfl h7)
theorem gG_append_B (hM : Mem G w0 w L) {s x : Operand} {t : TypeId} (hw : Region.wanted (Oper.mk dst (.call { callee := .builtin .append, args := #[s, x], argTypes := #[t, t] }) type pos after (some (j, want))) (yielded ops a.tmps) = true)
    (h : ∃ (v u : Value) (ob : Option Nat) (n cap : Nat) (e : TypeId) (l l2 : List UInt8) (m : Nat) (L' : Option Nat → Nat → List Blk), a.eval s = v ∧ a.eval x = u ∧ v = sl ob n cap ∧ P.underlying t = some (.slice e) ∧ El P e 1 1 ∧ Src w u m (l2.map B8) ∧
    (∀ ob' cap', Swap L ⟨ob, e, l.map B8, cap⟩ ⟨ob', e, (l ++ l2).map B8, cap'⟩ (L' ob' cap')) ∧ Len l n ∧ Len l2 m ∧ cap ≤ maxLen ∧ n + m ≤ 140737488355328 ∧
    ∀ ob' cap' w', Mem G w0 w' (L' ob' cap') → n + m ≤ cap' → cap' ≤ maxLen → wpList P ops Q rest (a.put dst (sl ob' (n + m) cap')) w') :
    wpList P ops Q (Oper.mk dst (.call { callee := .builtin .append, args := #[s, x], argTypes := #[t, t] }) type pos after (some (j, want)) :: rest) a w :=
  let ⟨_, _, _, _, _, _, _, _, _, _, h1, h2, h3, h4, h5, h6, h7, h8, h9, h10, h11, h12⟩ := h; wpList_wanted hw (hM.wp_append_B rfl h1 h3 h4 h5 h2 h6 h7 h8 h9 h10 h11 h12)
end
end Go.PK
