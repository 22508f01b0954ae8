/-
  What the bound of an 'Upto' statement gives.
-/
import Derived.Test.YtmeialegemhlhaaRows
import Derived.Test.YtmeialegemhlhaaO
namespace Go.Proofs.Ytmeialegemhlhaa
open Go.PK

theorem bulk_one {H : Type} (d : DataW H) : 1 ≤ Rows.uptoBulk d := by
  cases d with
  | lit l => cases l <;> simp [Rows.uptoBulk]
  | nil => simp [Rows.uptoBulk]
  | ptr d => simp [Rows.uptoBulk]
  | slice elems spare => simp [Rows.uptoBulk]
  | agg parts => simp [Rows.uptoBulk]
  | iface t d => simp [Rows.uptoBulk]
  | map entries => simp [Rows.uptoBulk]
  | held h => simp [Rows.uptoBulk]
theorem bulk_part {H : Type} {d : DataW H} {l : List (DataW H)} (h : d ∈ l) : Rows.uptoBulk d ≤ Rows.uptoBulkAll l := by
  induction l with
  | nil => cases h
  | cons x r ih =>
    simp only [Rows.uptoBulkAll]
    cases List.mem_cons.1 h with
    | inl e => subst e; omega
    | inr e => have := ih e; omega
theorem bulk_length {H : Type} (l : List (DataW H)) : l.length ≤ Rows.uptoBulkAll l := by
  induction l with
  | nil => simp [Rows.uptoBulkAll]
  | cons x l ih =>
    simp only [Rows.uptoBulkAll, List.length_cons]
    have := bulk_one x
    omega
theorem bulk_len {H : Type} (d : DataW H) : dataLen d ≤ Rows.uptoBulk d := by
  cases d with
  | slice elems spare =>
    simp only [dataLen, Rows.uptoBulk]
    have := bulk_length elems
    have := bulk_length spare
    omega
  | lit l =>
    cases l with
    | string s => simp [dataLen, Rows.uptoBulk]
    | _ => simp [dataLen]
  | _ => simp [dataLen]
end Go.Proofs.Ytmeialegemhlhaa
