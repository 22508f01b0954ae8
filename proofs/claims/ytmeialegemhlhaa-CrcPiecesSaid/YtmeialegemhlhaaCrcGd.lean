/-
  Sums beside one another: the functions of Sum as they act on what is owned; what holds of the objects of CrcPieces' script, step by step.
-/
import Derived.Test.YtmeialegemhlhaaSc
import Derived.Test.YtmeialegemhlhaaBld
import Derived.Test.YtmeialegemhlhaaT
import Derived.Test.YtmeialegemhlhaaIx
import Derived.Test.YtmeialegemhlhaaCrcW3
namespace Go.PK
open Go.RowKit
/-- what a call made, beside what is owned -/
theorem Mem.addMem {G : List Nat} {w0 w w' : World} {L L' : List Blk} (h : Mem G w0 w L) (k : Mem [] w w' L') : Mem G w0 w' (L' ++ L) := by
  have h2 := h.adds k.done
  refine ⟨h2.touch, fun b hb => ?_, fun b hb g hg => ?_, ?_⟩
  · rcases List.mem_append.1 hb with hb | hb
    · exact k.holds b hb
    · exact h2.holds b hb
  · rcases List.mem_append.1 hb with hb | hb
    · exact .inr (Nat.le_trans h.touch.size ((k.own b hb g hg).resolve_left (by simp)))
    · exact h.own b hb g hg
  · rw [List.filterMap_append, List.nodup_append]
    refine ⟨k.nodup, h.nodup, fun a ha b hb hab => ?_⟩
    subst hab
    obtain ⟨x, hx, hxe⟩ := mem_ids.1 ha
    obtain ⟨y, hy, hye⟩ := mem_ids.1 hb
    have h3 := (k.own x hx a hxe).resolve_left (by simp)
    have h4 := (h.holds y hy).lt hye
    omega
theorem Mem.join {G : List Nat} {w0 w w' : World} {L L' : List Blk} (h : Mem [] w0 w L) (k : Mem G w w' L') (hG : ∀ g ∈ G, w0.heap.size ≤ g) : Mem [] w0 w' L' :=
  ⟨h.touch.step k.touch fun g hg => .inr (hG g hg), k.holds, fun b hb g hg => .inr (by
    rcases k.own b hb g hg with h1 | h1
    · exact hG g h1
    · exact Nat.le_trans h.touch.size h1), k.nodup⟩
section
variable {P : Program} {Q : Exit → Act → World → Prop} {ops : Array Oper} {rest : List Oper} {a : Act} {w : World} {G : List Nat} {w0 : World} {L : List Blk} {dst : Option Tmp} {type : TypeId} {pos : String} {after : Array Edge}
theorem gL_buildSlice1 (hM : Mem G w0 w L) {t : TypeId} {x : Operand} (h : ∃ e C size bytes V, P.underlying t = some (.slice e) ∧ El P e size bytes ∧ 1 * size ≤ 16777216 ∧ a.eval x = V ∧ V.cells = C.toArray ∧ Len C size ∧
    ∀ g w', Mem G w0 w' (⟨some g, e, C, size⟩ :: L) → wpList P ops Q rest (a.put dst (.slice (some ⟨g, 0, none⟩) 1 1)) w') :
    wpList P ops Q (Oper.mk dst (.buildSlice t 1 #[(0, x)]) type pos after none :: rest) a w := by
  obtain ⟨e, C, size, bytes, V, hu, hel, hs, hx, hC, hl, h⟩ := h
  refine wpList_plain rfl fun K hk => hM.wp_buildSlice (parts := [(0, x)]) (C := C) rfl hu hel hs (by decide) rfl ?_ ?_ (by rw [Nat.one_mul]) (fun g w' hm => hk _ _ (h g w' hm))
  · simp [hx, hC]
  · intro v hv
    simp [hx] at hv
    subst hv
    rw [hC]
    exact List.size_toArray.trans hl.eq
end
end Go.PK
namespace Go.Proofs.Ytmeialegemhlhaa
open Go.RowKit Go.PK

theorem str_of {w : World} {v : Value} {l : List UInt8} (h : Bytes w v l) : (convert 23 9 v).run Try.prog w = .ok (.string ⟨l.toArray⟩) w :=
  run_str 23 9 5 Try.underlying23 Try.underlying5 Try.underlying9 h
/-- the cells of a Sum that took these bytes in -/
def SumC (C : List Value) (m : List UInt8) : Prop := C = [W32 (Crc.of m)]
theorem SumC.len {C : List Value} {m : List UInt8} (h : SumC C m) : Len C 1 := by rw [h]; exact Len.of rfl
theorem crc_New_m (w : World) : Calls Try.prog 31 #[] w fun e w' => ∃ g, e = .returned (.pointer (some ⟨g, 0, none⟩)) ∧ Mem [] w w' [⟨some g, 69, [W32 (Crc.of [])], 1⟩] := by
  refine (crc_New w).mono ?_
  rintro e w' ⟨rfl, rfl⟩
  exact ⟨_, rfl, (Mem.start w).alloc [W32 (Crc.of [])] _⟩
theorem crc_Sum_m (w : World) (g : Nat) (C : List Value) (m : List UInt8) (hR : Row w g 69 C) (hC : SumC C m) :
    Calls Try.prog 33 #[.pointer (some ⟨g, 0, none⟩)] w fun e w' => e = .returned (W32 (Crc.of m)) ∧ Below w.heap.size w w' := by
  rw [hC] at hR
  refine (crc_Sum w g _ hR).mono ?_
  rintro e w' ⟨rfl, rfl⟩
  exact ⟨rfl, Below.refl _ _⟩
theorem ref01_Of_m (w : World) (v : Value) (l : List UInt8) (hv : Bytes w v l) (hl : l.length ≤ 140737488351232) :
    Calls Try.prog 28 #[v] w fun e w' => e = .returned (W32 (Crc.of l)) ∧ Below w.heap.size w w' := by
  refine (ref01_Of w v l hv hl).mono ?_
  rintro e w' ⟨rfl, rfl⟩
  exact ⟨rfl, Below.refl _ _⟩
theorem crc_Write_m (w : World) (g : Nat) (C : List Value) (m B : List UInt8) (v : Value) (hR : Row w g 69 C) (hC : SumC C m) (hv : Bytes w v B) (hl : B.length ≤ 140737488351232) :
    Calls Try.prog 32 #[.pointer (some ⟨g, 0, none⟩), v] w fun e w' => e = .returned (.tuple #[]) ∧ ∃ C', Go.PK.Touch [g] w w' ∧ Row w' g 69 C' ∧ SumC C' (m ++ B) := by
  rw [hC] at hR
  have hM : Mem [g] w w [⟨some g, 69, [W32 (Crc.of m)], 1⟩] := ((Mem.start w).mono (by simp)).take hR (by simp) (by simp)
  refine (crc_Write w g _ v B hR hv hl).mono ?_
  rintro e w' ⟨rfl, rfl⟩
  have h2 := hM.setCell (v := W32 (~~~(Crc.feed (~~~(Crc.of m)) B))) (off := 0) (.here _ _ _) (by simp)
  refine ⟨rfl, _, h2.touch, h2.rowN (.head _) (Len.of rfl), ?_⟩
  have he : ~~~(Crc.feed (~~~(Crc.of m)) B) = Crc.of (m ++ B) := by
    unfold Crc.of
    rw [Crc.feed_append, UInt32.not_not]
  show [W32 _] = _
  rw [he]
abbrev SumB : Sd → Blk := Sd.obj 69 1
/-- what holds of the objects ahead of the j-th step -/
structure CrcGood (l : List Step) (j : Nat) (ds : List Sd) (ps : List PR) : Prop where
  pos : 0 < ds.length
  most : ds.length ≤ j + 1
  nil : PR.nil ∈ ps
  dig : ∀ d ∈ ds, SumC d.C d.r.m
  mem : ∀ d ∈ ds, d.r ∈ ps
  short : ∀ d ∈ ds, d.r.m.length ≤ pre l j
  cap : ∀ d ∈ ds, d.r.cap ≤ maxLen
abbrev crcL (gP gA capP capA : Nat) (ds : List Sd) (ps : List PR) : List Blk :=
  ⟨some gP, 39, ds.map Sd.p, capP * 1⟩ :: ⟨some gA, 23, ds.map Sd.v, capA * 1⟩ :: (ds.map SumB ++ ps.map (PR.blk 5))
theorem CrcGood.start {l : List Step} {g : Nat} {C : List Value} (h : SumC C []) : CrcGood l 0 [⟨g, C, PR.nil⟩] [PR.nil] :=
  ⟨by simp, by simp, by simp, by intro d hd; simp at hd; subst hd; exact h, by simp, by simp [PR.nil], by simp [PR.nil]⟩
theorem CrcGood.keep {l : List Step} {j : Nat} {ds : List Sd} {ps : List PR} (h : CrcGood l j ds ps) (hj : pre l j ≤ pre l (j + 1)) : CrcGood l (j + 1) ds ps :=
  ⟨h.pos, by have := h.most; omega, h.nil, h.dig, h.mem, fun d hd => by have := h.short d hd; omega, h.cap⟩
theorem CrcGood.new {l : List Step} {j : Nat} {ds : List Sd} {ps : List PR} (h : CrcGood l j ds ps) (hj : pre l j ≤ pre l (j + 1)) {g : Nat} {C : List Value} {r : PR} (hC : SumC C r.m) (hr : r ∈ ps) (hs : r.m.length ≤ pre l j) (hc : r.cap ≤ maxLen) : CrcGood l (j + 1) (ds ++ [⟨g, C, r⟩]) ps := by
  have k := h.keep hj
  refine ⟨by simp, by rw [List.length_append]; have := h.most; simp; omega, h.nil, ?_, ?_, ?_, ?_⟩ <;> intro d hd <;> rw [List.mem_append, List.mem_singleton] at hd
  · rcases hd with hd | rfl
    · exact h.dig d hd
    · exact hC
  · rcases hd with hd | rfl
    · exact h.mem d hd
    · exact hr
  · rcases hd with hd | rfl
    · exact k.short d hd
    · exact Nat.le_trans hs hj
  · rcases hd with hd | rfl
    · exact h.cap d hd
    · exact hc
theorem CrcGood.wrote {l : List Step} {j : Nat} {ds : List Sd} {ps : List PR} (h : CrcGood l j ds ps) {B : List UInt8} (hj : pre l (j + 1) = pre l j + (B.length + 1)) {k : Nat} {d : Sd} (hk : ds[k]? = some d) {C : List Value} {r : PR} (hr : r.m = d.r.m ++ B) (hC : SumC C (d.r.m ++ B)) (hc : r.cap ≤ maxLen) :
    CrcGood l (j + 1) (ds.set k ⟨d.g, C, r⟩) (ps ++ [r]) := by
  have kk := h.keep (by omega)
  have hd0 := List.mem_of_getElem? hk
  have hin : ∀ x ∈ ds.set k ⟨d.g, C, r⟩, x ∈ ds ∨ x = ⟨d.g, C, r⟩ := fun x hx => List.mem_or_eq_of_mem_set hx
  refine ⟨by rw [List.length_set]; exact h.pos, by rw [List.length_set]; exact kk.most, List.mem_append_left _ h.nil, ?_, ?_, ?_, ?_⟩ <;> intro x hx <;> rcases hin x hx with hx | rfl
  · exact h.dig x hx
  · rw [← hr] at hC; exact hC
  · exact List.mem_append_left _ (h.mem x hx)
  · exact List.mem_append_right _ (by simp)
  · exact kk.short x hx
  · show r.m.length ≤ _
    rw [hr, List.length_append]
    have := h.short d hd0
    omega
  · exact h.cap x hx
  · exact hc
theorem perm4 {α : Type} (a b c d : α) : [a, b, c, d].Perm [c, b, d, a] := ((List.perm_append_singleton a [b, c, d]).symm).trans (.swap _ _ _)
theorem sub_int {a b : Nat} (h : b ≤ a) : (a : Int) - (b : Int) = ((a - b : Nat) : Int) := by omega
end Go.Proofs.Ytmeialegemhlhaa
