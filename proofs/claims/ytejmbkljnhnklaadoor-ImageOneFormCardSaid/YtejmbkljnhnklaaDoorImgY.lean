/-
  What Parse, Make and their references answer, summed up.
-/
import Derived.Test.YtejmbkljnhnklaaDoorImgX
namespace Go.Proofs.YtejmbkljnhnklaaDoor
open Go.RowKit Go.PK
theorem Bytes.none0 (w : World) (a : Addr) : Bytes w (.slice (some a) 0 0) [] := ⟨some a, 0, rfl, Nat.le_refl _, by decide, fun _ => rfl, fun j h => absurd h (Nat.not_lt_zero _)⟩
theorem im_one (x : Img.Im) (p : Value) (hp : p.oneCell' = true) : ∀ v ∈ imC x p, v.oneCell' = true := fun v hv => by
  rcases List.mem_append.1 hv with h | h
  · simp at h
    rcases h with rfl | rfl | rfl | rfl
    · rfl
    · rfl
    · rfl
    · exact hp
  · obtain ⟨c, _, rfl⟩ := List.mem_map.1 h
    rfl
theorem parse_sum (w0 : World) (v : Value) (b : List UInt8) (hv : Bytes w0 v b) (hbl : b.length ≤ 140737488351232) :
    Calls Tryd.prog 13 #[v] w0 fun e w' => ∃ x ec ek p ev, Img.parse b = (x, (ec, ek)) ∧ Len x.tag 32 ∧ e = .returned (.tuple #[.agg (imC x p).toArray, ev]) ∧ p.oneCell' = true ∧ Bytes w' p x.pay ∧ ((ec, ek) = (0, 0) → ev = .nilIface) ∧ (¬ (ec, ek) = (0, 0) → ∃ a, ev = .iface 52 a) ∧
      (∀ w'', Adds w' w'' → TypeLaid w'' → Calls Tryd.prog 15 #[ev] w'' fun e w3 => e = .returned (.tuple #[.agg (wrongC ec ek).toArray, .bool true]) ∧ Below w''.heap.size w'' w3) ∧ Below w0.heap.size w0 w' := by
  refine (image_Parse w0 v b hv hbl).mono ?_
  rintro e w' (⟨x, g, o, cap, n, hx, hpl, htl, rfl, ho, hnc, hc, hbn, hpay, hM⟩ | ⟨ec, ek, g, hx, hne, rfl, hM⟩)
  · refine ⟨x, 0, 0, _, _, hx, htl, rfl, rfl, ?_, fun _ => rfl, fun h => absurd rfl h, fun w'' _ _ => told_nil w'', hM.done⟩
    rcases Nat.eq_zero_or_pos n with h0 | h0
    · subst h0
      rw [show x.pay = [] from List.eq_nil_of_length_eq_zero hpl.eq]
      exact Bytes.none0 _ _
    · obtain rfl := ho h0
      rw [hpay]
      have hcc : cap ≤ 9223372036854775807 := by simpa [maxLen] using hc
      exact hM.part' (.head _) (by omega) (Nat.le_refl _) (by omega)
  · exact ⟨Img.im0, ec, ek, _, _, hx, Len.rep 32 0, rfl, rfl, Bytes.nil _, fun h => absurd (congrArg Prod.fst h) hne, fun _ => ⟨_, rfl⟩, fun w'' hb hg => told_err w'' hg g ec ek ((hM.adds hb).rowN (.head _) rfl) hne, hM.done⟩
theorem ref_parse_sum (w0 : World) (v : Value) (b : List UInt8) (hv : Bytes w0 v b) (hbl : b.length ≤ 140737488351232) (x : Img.Im) (ec ek : Nat) (hx : Img.parse b = (x, (ec, ek))) :
    Calls Tryd.prog 14 #[v] w0 fun e w' => ∃ p, e = .returned (.tuple #[.agg (imC x p).toArray, .agg (wrongC ec ek).toArray]) ∧ p.oneCell' = true ∧ Bytes w' p x.pay ∧ Below w0.heap.size w0 w' := by
  refine (ref11_Parse w0 v b hv hbl).mono ?_
  rintro e w' ⟨x', c', k', ob, cap, n, hx', hpl, htl, rfl, hc, hM⟩
  have h := hx.symm.trans hx'
  cases h
  exact ⟨_, rfl, rfl, hM.whole (.head _) hpl (by simpa [maxLen] using hc), hM.done⟩
theorem body_sum (w0 : World) (v : Value) (b : List UInt8) (hv : Bytes w0 v b) (hbl : b.length ≤ 140737488351232) :
    Calls Tryd.prog 17 #[v] w0 fun e w' => ∃ v', e = .returned v' ∧ Bytes w' v' (Img.body b) ∧ Below w0.heap.size w0 w' := by
  refine (image_Body w0 v b hv hbl).mono ?_
  rintro e w' ⟨ob, m, cap, rfl, hm, hc, hM⟩
  exact ⟨_, rfl, hM.whole (.head _) hm (by simpa [maxLen] using hc), hM.done⟩
theorem ref_body_sum (w0 : World) (v : Value) (b : List UInt8) (hv : Bytes w0 v b) (hbl : b.length ≤ 140737488351232) :
    Calls Tryd.prog 18 #[v] w0 fun e w' => ∃ v', e = .returned v' ∧ Bytes w' v' (Img.body b) ∧ Below w0.heap.size w0 w' := by
  refine (ref11_Body w0 v b hv hbl).mono ?_
  rintro e w' ⟨ob, m, cap, rfl, hm, hc, hM⟩
  exact ⟨_, rfl, hM.whole (.head _) hm (by simpa [maxLen] using hc), hM.done⟩
theorem make_sum (w0 : World) (v : Value) (s : List UInt8) (hs : Bytes w0 v s) (hsl : s.length ≤ 140737488351232) (x : Img.Im) (p : Value) (hp : Bytes w0 p x.pay) (hT : Len x.tag 32) :
    Calls Tryd.prog 10 #[v, .agg (imC x p).toArray] w0 fun e w' => ∃ ao m cap, e = .returned (.tuple #[.slice ao m cap, .int .i64 ((Img.make s x).2 : Int)]) ∧ Len (Img.make s x).1 m ∧ Bytes w' (.slice ao m cap) (Img.make s x).1 ∧ Below w0.heap.size w0 w' := by
  refine (image_Make w0 v s hs hsl x p hp hT).mono ?_
  rintro e w' ⟨ob, m, cap, rfl, hm, hc, hM⟩
  exact ⟨_, m, cap, rfl, hm, hM.whole (.head _) hm (by simpa [maxLen] using hc), hM.done⟩
end Go.Proofs.YtejmbkljnhnklaaDoor
