/-
  An image as an argument; the walk of ImageMakes.
-/
import Derived.Test.YtejmbkljnhnklaaDoorImgW
namespace Go.Proofs.YtejmbkljnhnklaaDoor
open Go.RowKit Go.PK
abbrev rImg : Rd (Int × Int × Int × List UInt8 × List UInt8) := rPair rInt (rPair rInt (rPair rInt (rPair (rSlice rByte) (rArr 32))))
theorem img_cells {w : World} {cs : List Value} {y : Int × Int × Int × List UInt8 × List UInt8} (h : rImg.K w cs y) : ∃ (x : Img.Im) (p : Value), cs = imC x p ∧ x = ⟨y.1, y.2.1, y.2.2.1, y.2.2.2.1, y.2.2.2.2⟩ ∧ Bytes w p x.pay ∧ Len x.tag 32 := by
  obtain ⟨c1, c2, rfl, e1, c3, c4, rfl, e2, c5, c6, rfl, e3, c7, c8, rfl, e4, e5, e6⟩ := h
  obtain rfl : c1 = [.int .i64 y.1] := e1
  obtain rfl : c3 = [.int .i64 y.2.1] := e2
  obtain rfl : c5 = [.int .i64 y.2.2.1] := e3
  obtain ⟨ao, cap, e7, -⟩ := id e4
  obtain ⟨p, rfl⟩ : ∃ p, c7 = [p] := ⟨_, e7⟩
  exact ⟨_, p, by rw [e5]; rfl, rfl, Bytes.of_K e4, Len.of e6⟩

set_option maxRecDepth 100000 in
set_option maxHeartbeats 4000000 in
theorem ImageMakes_walk (w0 : World) (hg : TypeLaid w0) (v : Value) (s : List UInt8) (hs : Bytes w0 v s) (hsl : s.length ≤ 140737488351232) (cs : List Value) (y : Int × Int × Int × List UInt8 × List UInt8) (hK : rImg.K w0 cs y) (_ho : rImg.ok y) :
    Calls Tryd.prog 4 #[v, .agg cs.toArray] w0 fun e w' => e = .returned (.bool true) ∧ Below w0.heap.size w0 w' := by
  obtain ⟨x, p, rfl, -, hp, hT⟩ := img_cells hK
  clear hK _ho
  have hM := Mem.start w0
  have hC := imC_len hT p
  have h1 : ∀ w, Adds w0 w → _ := fun w hb => image_Make w v s (hs.adds hb) hsl x p (hp.adds hb) hT
  have h2 : ∀ w, Adds w0 w → _ := fun w hb => ref11_Make w v s (hs.adds hb) hsl x p (hp.adds hb) hT
  obtain ⟨Mk, hMk⟩ : ∃ Mk, Mk = Img.make s x := ⟨_, rfl⟩
  rw [← hMk] at h1 h2
  clear hMk
  generalize imC x p = C at *
  go_enter Tryd.func4, Tryd.ntmps4
  go_wp2_with (first
    | ((with_reducible refine gL_box hM ?_); refine ⟨_, _, _, rfl, rfl, hC, ?_⟩; intro gx _ hM2; clear hM; have hM := hM2; clear hM2))
  refine (law11_awake _ (hg.mem hM)).mono ?_
  rintro _ w1 ⟨rfl, B1⟩
  replace hM := hM.adds B1
  clear B1
  go_wp2_with (first
    | ((with_reducible refine gL_load (dst := some 13) ?_); refine ⟨_, _, rfl, hM.loads_all (.head _) (ag_of rfl) hC, ?_⟩))
  refine (h1 _ hM.done).mono ?_
  rintro _ w2 ⟨ob1, m1, cap1, rfl, hm1, hc1, hM1⟩
  replace hM := hM.addMem hM1
  simp only [List.cons_append, List.nil_append] at hM
  clear hM1
  go_wp2_with (first
    | ((with_reducible refine gL_load (dst := some 19) ?_); refine ⟨_, _, rfl, hM.loads_all (.tail _ (.head _)) (ag_of rfl) hC, ?_⟩))
  refine (h2 _ hM.done).mono ?_
  rintro _ w3 ⟨ob2, m2, cap2, rfl, hm2, hc2, hM1⟩
  replace hM := hM.addMem hM1
  simp only [List.cons_append, List.nil_append] at hM
  clear hM1 h1 h2
  have s1 := str_of (hM.whole (.tail _ (.head _)) hm1 (by simpa [maxLen] using hc1))
  have s2 := str_of (hM.whole (.head _) hm2 (by simpa [maxLen] using hc2))
  generalize Mk.2 = k at *
  go_wp2_with fail
  go_ret
  exact ⟨rfl, hM.done⟩
end Go.Proofs.YtejmbkljnhnklaaDoor
