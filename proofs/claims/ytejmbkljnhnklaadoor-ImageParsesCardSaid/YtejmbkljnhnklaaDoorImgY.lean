/-
  What Parse, Make and their references answer, summed up; the walk of ImageParses.
-/
import Derived.Test.YtejmbkljnhnklaaDoorImgX
namespace Go.Proofs.YtejmbkljnhnklaaDoor
open Go.RowKit Go.PK
theorem Bytes.none0 (w : World) (a : Addr) : Bytes w (.slice (some a) 0 0) [] := ⟨some a, 0, rfl, Nat.le_refl _, by decide, fun _ => rfl, fun j h => absurd h (Nat.not_lt_zero _)⟩
theorem im_one (x : Img.Im) (p : Value) (hp : p.oneCell' = true) : ∀ v ∈ imC x p, v.oneCell' = true := fun v hv => by
  rcases List.mem_append.1 hv with h | h
  · simp at h
    rcases h with rfl | rfl | rfl | rfl
    · rfl
    · rfl
    · rfl
    · exact hp
  · obtain ⟨c, _, rfl⟩ := List.mem_map.1 h
    rfl
theorem parse_sum (w0 : World) (v : Value) (b : List UInt8) (hv : Bytes w0 v b) (hbl : b.length ≤ 140737488351232) :
    Calls Tryd.prog 13 #[v] w0 fun e w' => ∃ x ec ek p ev, Img.parse b = (x, (ec, ek)) ∧ Len x.tag 32 ∧ e = .returned (.tuple #[.agg (imC x p).toArray, ev]) ∧ p.oneCell' = true ∧ Bytes w' p x.pay ∧ ((ec, ek) = (0, 0) → ev = .nilIface) ∧ (¬ (ec, ek) = (0, 0) → ∃ a, ev = .iface 52 a) ∧
      (∀ w'', Adds w' w'' → TypeLaid w'' → Calls Tryd.prog 15 #[ev] w'' fun e w3 => e = .returned (.tuple #[.agg (wrongC ec ek).toArray, .bool true]) ∧ Below w''.heap.size w'' w3) ∧ Below w0.heap.size w0 w' := by
  refine (image_Parse w0 v b hv hbl).mono ?_
  rintro e w' (⟨x, g, o, cap, n, hx, hpl, htl, rfl, ho, hnc, hc, hbn, hpay, hM⟩ | ⟨ec, ek, g, hx, hne, rfl, hM⟩)
  · refine ⟨x, 0, 0, _, _, hx, htl, rfl, rfl, ?_, fun _ => rfl, fun h => absurd rfl h, fun w'' _ _ => told_nil w'', hM.done⟩
    rcases Nat.eq_zero_or_pos n with h0 | h0
    · subst h0
      rw [show x.pay = [] from List.eq_nil_of_length_eq_zero hpl.eq]
      exact Bytes.none0 _ _
    · obtain rfl := ho h0
      rw [hpay]
      have hcc : cap ≤ 9223372036854775807 := by simpa [maxLen] using hc
      exact hM.part' (.head _) (by omega) (Nat.le_refl _) (by omega)
  · exact ⟨Img.im0, ec, ek, _, _, hx, Len.rep 32 0, rfl, rfl, Bytes.nil _, fun h => absurd (congrArg Prod.fst h) hne, fun _ => ⟨_, rfl⟩, fun w'' hb hg => told_err w'' hg g ec ek ((hM.adds hb).rowN (.head _) rfl) hne, hM.done⟩
theorem ref_parse_sum (w0 : World) (v : Value) (b : List UInt8) (hv : Bytes w0 v b) (hbl : b.length ≤ 140737488351232) (x : Img.Im) (ec ek : Nat) (hx : Img.parse b = (x, (ec, ek))) :
    Calls Tryd.prog 14 #[v] w0 fun e w' => ∃ p, e = .returned (.tuple #[.agg (imC x p).toArray, .agg (wrongC ec ek).toArray]) ∧ p.oneCell' = true ∧ Bytes w' p x.pay ∧ Below w0.heap.size w0 w' := by
  refine (ref11_Parse w0 v b hv hbl).mono ?_
  rintro e w' ⟨x', c', k', ob, cap, n, hx', hpl, htl, rfl, hc, hM⟩
  have h := hx.symm.trans hx'
  cases h
  exact ⟨_, rfl, rfl, hM.whole (.head _) hpl (by simpa [maxLen] using hc), hM.done⟩
theorem body_sum (w0 : World) (v : Value) (b : List UInt8) (hv : Bytes w0 v b) (hbl : b.length ≤ 140737488351232) :
    Calls Tryd.prog 17 #[v] w0 fun e w' => ∃ v', e = .returned v' ∧ Bytes w' v' (Img.body b) ∧ Below w0.heap.size w0 w' := by
  refine (image_Body w0 v b hv hbl).mono ?_
  rintro e w' ⟨ob, m, cap, rfl, hm, hc, hM⟩
  exact ⟨_, rfl, hM.whole (.head _) hm (by simpa [maxLen] using hc), hM.done⟩
theorem ref_body_sum (w0 : World) (v : Value) (b : List UInt8) (hv : Bytes w0 v b) (hbl : b.length ≤ 140737488351232) :
    Calls Tryd.prog 18 #[v] w0 fun e w' => ∃ v', e = .returned v' ∧ Bytes w' v' (Img.body b) ∧ Below w0.heap.size w0 w' := by
  refine (ref11_Body w0 v b hv hbl).mono ?_
  rintro e w' ⟨ob, m, cap, rfl, hm, hc, hM⟩
  exact ⟨_, rfl, hM.whole (.head _) hm (by simpa [maxLen] using hc), hM.done⟩
theorem make_sum (w0 : World) (v : Value) (s : List UInt8) (hs : Bytes w0 v s) (hsl : s.length ≤ 140737488351232) (x : Img.Im) (p : Value) (hp : Bytes w0 p x.pay) (hT : Len x.tag 32) :
    Calls Tryd.prog 10 #[v, .agg (imC x p).toArray] w0 fun e w' => ∃ ao m cap, e = .returned (.tuple #[.slice ao m cap, .int .i64 ((Img.make s x).2 : Int)]) ∧ Len (Img.make s x).1 m ∧ Bytes w' (.slice ao m cap) (Img.make s x).1 ∧ Below w0.heap.size w0 w' := by
  refine (image_Make w0 v s hs hsl x p hp hT).mono ?_
  rintro e w' ⟨ob, m, cap, rfl, hm, hc, hM⟩
  exact ⟨_, m, cap, rfl, hm, hM.whole (.head _) hm (by simpa [maxLen] using hc), hM.done⟩
theorem ref01_Beyond (w : World) (v : Value) (l : List (List UInt8)) (h : (rSlice (rSlice rByte)).K w [v] l) (ho : (rSlice (rSlice rByte)).ok l) :
    Calls Tryd.prog 12 #[v] w fun e w' => ∃ b : Bool, e = .returned (.bool b) ∧ w' = w := by
  obtain ⟨ao, cap, hv, h1, h2, h3, h4⟩ := h
  obtain rfl : v = .slice ao l.length cap := by simpa using hv
  clear hv
  obtain ⟨hl, hr⟩ := ho
  go_enter Tryd.func12, Tryd.ntmps12
  go_wp2_with fail
  go_loop [3, 4] (fun y i => ∃ (k : Nat) (z : Int), k ≤ l.length ∧ i = .int .i64 k ∧ y = .int .i64 z ∧ z ≤ 2147483647 ∧ -140737488355328 ≤ z) (fun _ i => l.length - (intOf i).toNat)
  case atStart => exact ⟨0, _, by omega, rfl, rfl, by decide, by decide⟩
  case round =>
    obtain ⟨k, z, hk, rfl, rfl, hz1, hz2⟩ := hrel
    by_cases hlt : k < l.length
    · by_cases hz : 0 ≤ z
      · obtain ⟨b, off, rfl, hb, cells, hK, hcell⟩ := h4 k _ (List.getElem?_eq_getElem hlt)
        obtain ⟨ao', cap', rfl, g1, g2, g3, -⟩ := hK
        have hlen := (hr _ (List.getElem_mem hlt)).1
        have hc := hcell 0 (by decide)
        simp only [rSlice, Nat.mul_one, Nat.add_zero] at hc
        generalize l[k] = x at *
        clear hcell h4 hr
        go_wp2_with fail
        go_round
        case rel => exact ⟨k + 1, z - (1 + (x.length : Int)), by omega, by go_num, by go_num, by omega, by omega⟩
        case measure => simp [intOf]; omega
      · go_wp2_with fail
        go_ret
        first | exact rfl | (simp; done) | (simp; omega)
    · go_wp2_with fail
      go_ret
      first | exact rfl | (simp; done) | (simp; omega)
/-- a row of rows, in every later world -/
theorem row_later {w : World} {ao : Option Addr} {n cap : Nat} {l : List (List UInt8)} (h : (rSlice (rSlice rByte)).K w [.slice ao n cap] l) {k : Nat} (hk : k < l.length) :
    ∃ b off vB, ao = some ⟨b, off, none⟩ ∧ ∀ w', Adds w w' → w'.cell? ⟨b, off + k * 1, none⟩ = some vB ∧ Bytes w' vB l[k] := by
  obtain ⟨ao', cap', he, h1, h2, h3, h4⟩ := h
  cases he
  obtain ⟨b, off, rfl, hb, cells, hK, hc⟩ := h4 k _ (List.getElem?_eq_getElem hk)
  obtain ⟨ao2, cap2, e4, -⟩ := id hK
  obtain ⟨vB, rfl⟩ : ∃ vB, cells = [vB] := ⟨_, e4⟩
  have g0 := hc 0 (by decide)
  refine ⟨b, off, vB, rfl, fun w' hw => ⟨?_, (Bytes.of_K hK).adds hw⟩⟩
  rw [cell_below hw (by exact hb)]
  exact g0
end Go.Proofs.YtejmbkljnhnklaaDoor
