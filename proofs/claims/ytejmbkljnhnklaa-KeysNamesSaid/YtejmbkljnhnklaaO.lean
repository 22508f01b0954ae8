/-
  What came in, opened: slices of bytes and whole numbers, with the bounds of the form's reach.
-/
import Derived.Test.YtejmbkljnhnklaaM
import Derived.ProofKit
import Derived.OpenShut
import Derived.SizedLaws
namespace Go.PK
open Go.RowKit Go.ChangeShapes Go.WideShapes Go.ChangeAt

section
variable {H : Type} {enc : TypeId × Value → H} {P : Program} {w : World}

/-- how many places a slice has -/
def dataLen : DataW H → Nat
  | .slice elems spare => elems.length + spare.length
  | .lit (.string s) => s.length
  | _ => 0

theorem open_bytes {r : Reach} {b0 : Nat} {t e : TypeId} {v : Value} {d : DataW H} {ps : List MemPlace} (ht : P.underlying t = some (.slice e)) (he : P.underlying e = some (.int .u8)) (hc : P.cellsOf e = 1)
    (hval : Value.okWide P w r b0 t v) (h : DataW.Trod enc P w 0 (fun _ => true) true t v d ps) : ∃ l, Bytes w v l ∧ l.length ≤ dataLen d := by
  obtain ⟨a0, len0, cap0, rfl⟩ := okWide_slice ht hval
  obtain ⟨fuel, hf⟩ := h
  rcases open_ints ht he hc hf with ⟨hcs, -⟩ | ⟨x, l, c, zs, hcs, -, hl, hm, hz, hd, hcell, hwz⟩
  · simp [Value.cells] at hcs
    obtain ⟨rfl, rfl, rfl⟩ := hcs
    exact ⟨[], Bytes.nil w, Nat.zero_le _⟩
  · simp [Value.cells] at hcs
    obtain ⟨rfl, rfl, rfl⟩ := hcs
    have hz' : zs.length = cap0 := by simpa using hz
    have hll : (((zs.take len0).map fun z => UInt8.ofNat z.toNat)).length = len0 := by simp; omega
    refine ⟨(zs.take len0).map fun z => UInt8.ofNat z.toNat, ⟨some x, cap0, by rw [hll], by rw [hll]; exact hl, by simpa [maxLen] using hm, (fun h => by cases h), fun j hj => ?_⟩, ?_⟩
    · rw [hll] at hj
      obtain ⟨b, off, spot⟩ := x
      have h0 := hcell j (by omega)
      have hsp : spot = none ∨ j ≠ 0 := by
        by_cases hj0 : j = 0
        · subst hj0
          left
          simp only [Addr.add, if_true] at h0
          cases spot with
          | none => rfl
          | some s => simp [World.cell?] at h0; split at h0 <;> simp_all
        · exact .inr hj0
      have h00 := hcell 0 (by omega)
      have hs0 : spot = none := by
        simp only [Addr.add, if_true] at h00
        cases spot with
        | none => rfl
        | some s => simp [World.cell?] at h00; split at h00 <;> simp_all
      subst hs0
      refine ⟨b, off, rfl, block_lt_of_cell h00, ?_⟩
      rw [Addr.add_lit] at h0
      rw [h0]
      have hw := hwz (zs.getD j 0) (by
        rw [List.getD_eq_getElem?_getD, List.getElem?_eq_getElem (show j < zs.length by omega)]
        exact List.getElem_mem _)
      have hb : 0 ≤ zs.getD j 0 ∧ zs.getD j 0 ≤ 255 := by simpa [Lit.wf, IntKind.min, IntKind.max, IntKind.signed, IntKind.bits] using hw
      rw [B8_of hb.1 hb.2]
      congr 2
      simp [List.getD, hj, show j < zs.length by omega]
    · have hd' : d = .slice (lits .u8 (zs.take len0)) (lits .u8 (zs.drop len0)) := (Prod.mk.inj hd).1
      rw [hll, hd']
      simp only [dataLen, lits, List.length_map, List.length_take, List.length_drop]
      omega

theorem weights_of {ts : List TypeId} {ds : List (DataW H)} (h : (DataW.weightsEach P ts ds).all (· ≤ reachBytes) = true) {j : Nat} {t : TypeId} {d : DataW H} (ht : ts[j]? = some t) (hd : ds[j]? = some d) :
    ∀ n ∈ d.weights P t, n ≤ reachBytes := by
  intro n hn
  have := List.all_eq_true.1 h n (DataW.weights_mem_each ht hd n hn)
  simpa using this

theorem len_of_weights {t e : TypeId} {d : DataW H} (hu : P.underlying t = some (.slice e)) (hb : P.bytesOf e = 1) (h : ∀ n ∈ d.weights P t, n ≤ reachBytes) : dataLen d ≤ 140737488351232 := by
  cases d with
  | slice elems spare =>
    have := h ((elems.length + spare.length) * P.bytesOf e) (by simp [DataW.weights, hu])
    rw [hb, Nat.mul_one] at this
    exact this
  | lit l =>
    cases l with
    | string s =>
      have := h s.length (by simp [DataW.weights])
      exact this
    | _ => exact Nat.zero_le _
  | _ => exact Nat.zero_le _
end
end Go.PK
