/-
  The walk of MacTags.
-/
import Derived.Test.YtejmbkljnhnklaaMacD2
namespace Go.Proofs.Ytejmbkljnhnklaa
open Go.RowKit Go.PK

set_option maxRecDepth 100000 in
set_option maxHeartbeats 4000000 in
theorem MacTags_walk (w0 : World) (v1 : Value) (key : List UInt8) (hv1 : Bytes w0 v1 key) (h1 : key.length ≤ 140737488351232) (v2 : Value) (m : List UInt8) (hv2 : Bytes w0 v2 m) (h2 : m.length ≤ 140737488351232) (label : List UInt8) (h3 : label.length ≤ 140737488351232) :
    Calls Try.prog 8 #[v1, v2, .string ⟨label.toArray⟩] w0 fun e w' => e = .returned (.bool true) ∧ Below w0.heap.size w0 w' := by
  obtain ⟨T, hT⟩ : ∃ T, Mac.tag key m = T := ⟨_, rfl⟩
  obtain ⟨D, hD⟩ : ∃ D, Mac.derive key label = D := ⟨_, rfl⟩
  have hTl : Len T 32 := by rw [← hT]; exact Len.of (Mac.tag_len _ _)
  have hDl : Len D 32 := by rw [← hD]; exact Len.of (Mac.tag_len _ _)
  have hof : ∀ w, Bytes w v1 key → Bytes w v2 m → Calls Try.prog 31 #[v1, v2] w fun e w' => e = .returned (.agg (T.map B8).toArray) ∧ Below w.heap.size w w' := fun w h h' =>
    mac_Of_as w v1 v2 key m h h' (by omega) (by omega) T hT
  have href : ∀ w, Bytes w v1 key → Bytes w v2 m → Calls Try.prog 30 #[v1, v2] w fun e w' => e = .returned (.agg (T.map B8).toArray) ∧ Below w.heap.size w w' := fun w h h' =>
    ref03_Of w v1 v2 key m h h' (by omega) (by omega) T hT
  have hder : ∀ w, Bytes w v1 key → Calls Try.prog 32 #[v1, .string ⟨label.toArray⟩] w fun e w' => e = .returned (.agg (D.map B8).toArray) ∧ Below w.heap.size w w' := fun w h =>
    mac_Derive w v1 key label h (by omega) (by omega) D hD
  have hrde : ∀ w, Bytes w v1 key → Calls Try.prog 33 #[v1, .string ⟨label.toArray⟩] w fun e w' => e = .returned (.agg (D.map B8).toArray) ∧ Below w.heap.size w w' := fun w h =>
    ref03_Derive w v1 key label h (by omega) (by omega) D hD
  clear hT hD
  have hM := Mem.start w0
  go_enter Try.func8, Try.ntmps8
  generalize (⟨label.toArray⟩ : ByteArray) = S at *
  go_wp2_with (first
    | (go_at_call 31; (have hva := hof _ (hM.bytes0 hv1) (hM.bytes0 hv2)); (with_reducible refine hva.mono ?_); clear hva; rintro _ _ ⟨rfl, B1⟩; replace hM := hM.adds B1; clear B1)
    | (go_at_call 30; (have hva := href _ (hM.bytes0 hv1) (hM.bytes0 hv2)); (with_reducible refine hva.mono ?_); clear hva; rintro _ _ ⟨rfl, B1⟩; replace hM := hM.adds B1; clear B1)
    | (go_at_call 32; (have hva := hder _ (hM.bytes0 hv1)); (with_reducible refine hva.mono ?_); clear hva; rintro _ _ ⟨rfl, B1⟩; replace hM := hM.adds B1; clear B1)
    | (go_at_call 33; (have hva := hrde _ (hM.bytes0 hv1)); (with_reducible refine hva.mono ?_); clear hva; rintro _ _ ⟨rfl, B1⟩; replace hM := hM.adds B1; clear B1)
    | ((with_reducible refine gL_eql ?_); refine ⟨_, _, _, rfl, rfl, hash_self _ hTl, ?_⟩)
    | ((with_reducible refine gG_eql rfl ?_); refine ⟨_, _, _, rfl, rfl, hash_self _ hDl, ?_⟩)
    | (go_at_call 27; (with_reducible refine (law03_fixed _).mono ?_); rintro _ _ ⟨rfl, B1⟩; replace hM := hM.adds B1; clear B1))
  go_ret
  exact ⟨rfl, hM.done⟩
end Go.Proofs.Ytejmbkljnhnklaa
