/-
  The walk of Parse.
  The walk of the reference's Parse.
  The walks of Body, of the reference's Body and Same.
  The walk of told: an error as the document has it, by errors.As at its two targets.
  The walk of law 11's awake, and of ImageNames.
  An image as an argument; the walk of ImageMakes.
  What Parse, Make and their references answer, summed up.
-/
import Derived.Test.YtejmbkljnhnklaaDoorZh
import Derived.Test.YtejmbkljnhnklaaDoorZf
import Derived.Test.YtejmbkljnhnklaaDoorZe
import Derived.Test.YtejmbkljnhnklaaDoorZg
namespace Go.PK
open Go.RowKit
theorem Mem.join {G : List Nat} {w0 w w' : World} {L L' : List Blk} (h : Mem [] w0 w L) (k : Mem G w w' L') (hG : ∀ g ∈ G, w0.heap.size ≤ g) : Mem [] w0 w' L' :=
  ⟨h.touch.step k.touch fun g hg => .inr (hG g hg), k.holds, fun b hb g hg => .inr (by
    rcases k.own b hb g hg with h1 | h1
    · exact hG g h1
    · exact Nat.le_trans h.touch.size h1), k.nodup⟩
section
variable {P : Program} {o : Oper} {w : World} {R : Value → World → Prop} {ρ : Operand → Value}
theorem makes_alloc {ty : TypeId} {C : List Value} {n : Nat} (hz : Zr P ty C n) (ho : o.op = .alloc ty) (hR : ∀ g w', Mem [] w w' [⟨some g, ty, C, n⟩] → R (.pointer (some ⟨g, 0, none⟩)) w') : Makes P ρ o w R := by
  obtain ⟨z, hz, hC, rfl⟩ := hz
  refine makes_value2 (v := .pointer (some ⟨w.heap.size, 0, none⟩)) (w' := w.alloc (.cells C.toArray ty)) ?_ (hR _ _ ((Mem.start w).alloc C ty))
  unfold execOp
  simp only [ho, Sem.run_bind, Sem.run_pure, Result.andThen_ok, run_alloc_of hz hC]
theorem makes_build1 {ty : TypeId} {parts : List (Nat × Operand)} {vals : List (Nat × Value)} {v : Value} (h : ∀ w, (Instr.build ty vals.toArray).run P w = .ok v w) (ho : o.op = .build ty parts.toArray) (hp : (parts.map fun p => (p.1, ρ p.2)) = vals) (hR : R v w) : Makes P ρ o w R := by
  refine makes_value (v := v) ?_ hR
  unfold execOp
  simp only [ho, List.map_toArray, Sem.run_bind, Sem.run_pure, Result.andThen_ok, hp, h w]
theorem slice_three {t e n cap lo hi : Nat} (hu : P.underlying t = some (.slice e)) (he : (P.info? e).map (·.size) = some 1) {g off : Nat} (h1 : lo ≤ hi) (h2 : hi ≤ cap) :
    Sliced P t (.slice (some ⟨g, off, none⟩) n cap) (some (.int .i64 (lo : Int))) (some (.int .i64 (hi : Int))) (some (.int .i64 (hi : Int))) (.slice (some ⟨g, if hi = lo then off else off + lo, none⟩) (hi - lo) (hi - lo)) := by
  intro w
  cases hq : P.info? e with
  | none => simp [hq] at he
  | some i =>
    have hs : i.size = 1 := by simpa [hq] using he
    have hb : (Instr.sliceBounds true n cap (some (.int .i64 (lo : Int))) (some (.int .i64 (hi : Int))) (some (.int .i64 (hi : Int)))).run P w = .ok (lo, hi, hi) w := by
      simp [Instr.sliceBounds, run_sliceBound, h1, h2]
    simp only [Instr.sliceAt, Instr.slice, Sem.run_bind, run_underlying hu, Sem.run_pure, Result.andThen_ok, hb, sizeOf, typeInfo]
    simp [hq, hs]
    split <;> simp [Addr.add_lit]
end
end Go.PK
namespace Go.Proofs.YtejmbkljnhnklaaDoor
open Go.RowKit Go.PK
theorem rest_long {b : List UInt8} {n : Nat} (h : 524240 < n) : Img.rest b n = (Img.im0, (5, 12)) := if_pos h
theorem rest_short {b : List UInt8} {n nb : Nat} (hb : Len b nb) (h : ¬ 524240 < n) (k : nb < n + 48) : Img.rest b n = (Img.im0, (6, nb)) := by rw [Img.rest, if_neg h, hb.eq, if_pos k]
theorem rest_more {b : List UInt8} {n nb : Nat} (hb : Len b nb) (h : ¬ 524240 < n) (k : ¬ nb < n + 48) (j : n + 48 < nb) : Img.rest b n = (Img.im0, (7, n + 48)) := by rw [Img.rest, if_neg h, hb.eq, if_neg k, if_pos j]
theorem rest_just {b : List UInt8} {n nb : Nat} (hb : Len b nb) (h : ¬ 524240 < n) (k : ¬ nb < n + 48) (j : ¬ n + 48 < nb) : Img.rest b n = (⟨((gb b 5).toNat : Int), ((gb b 6).toNat : Int), (Img.number (b.drop 8) : Int), (b.drop 16).take n, b.drop (16 + n)⟩, (0, 0)) := by rw [Img.rest, if_neg h, hb.eq, if_neg k, if_neg j]
abbrev wrongC (c k : Nat) : List Value := [.int .i64 (c : Int), .int .i64 (k : Int)]
theorem im0_zero : Zr Tryd.prog 27 (imC Img.im0 (.slice none 0 0)) 36 := (zr_of rfl)
theorem parse_big {b : List UInt8} (h : 524288 < b.length) : Img.parse b = (Img.im0, (4, 524288)) := if_pos h
theorem parse_first {b : List UInt8} (h : ¬ 524288 < b.length) {e : Nat × Nat} (hf : Img.first b 0 16 = some e) : Img.parse b = (Img.im0, e) := by
  rw [Img.parse, if_neg h, hf]
theorem parse_rest {b : List UInt8} (h : ¬ 524288 < b.length) (hf : Img.first b 0 16 = none) : Img.parse b = Img.rest b (Img.number (b.drop 12)) := by
  rw [Img.parse, if_neg h, hf]
set_option maxRecDepth 100000 in
set_option maxHeartbeats 4000000 in
theorem image_Parse (w0 : World) (v : Value) (b : List UInt8) (hv : Bytes w0 v b) (hbl : b.length ≤ 140737488351232) :
    Calls Tryd.prog 13 #[v] w0 fun e w' =>
      (∃ x g o cap n, Img.parse b = (x, (0, 0)) ∧ Len x.pay n ∧ Len x.tag 32 ∧ e = .returned (.tuple #[.agg (imC x (.slice (some ⟨g, o, none⟩) n n)).toArray, .nilIface]) ∧ (0 < n → o = 16) ∧ n + 48 ≤ cap ∧ cap ≤ maxLen ∧ b.length = n + 48 ∧ x.pay = (b.drop 16).take n ∧ Mem [] w0 w' [⟨some g, 5, b.map B8, cap⟩]) ∨
      (∃ c k g, Img.parse b = (Img.im0, (c, k)) ∧ ¬ c = 0 ∧ e = .returned (.tuple #[.agg (imC Img.im0 (.slice none 0 0)).toArray, .iface 52 (.pointer (some ⟨g, 0, none⟩))]) ∧ Mem [] w0 w' [⟨some g, 53, wrongC c k, 2⟩]) := by
  have hM := Mem.start w0
  have hz := im0_zero
  have hzC := imC_len (x := Img.im0) (Len.rep 32 0) (.slice none 0 0)
  obtain ⟨nb, hnb⟩ : ∃ n, b.length = n := ⟨_, rfl⟩
  obtain ⟨ao, cap0, rfl, g1, g2, -⟩ := id hv
  rw [hnb] at hbl g1 hv ⊢
  have hbl2 : Len b nb := Len.of hnb
  have hbigp : 524288 < nb → Img.parse b = (Img.im0, (4, 524288)) := fun h => parse_big (by rw [hnb]; exact h)
  have hfirp : ¬ 524288 < nb → ∀ e, Img.first b 0 16 = some e → Img.parse b = (Img.im0, e) := fun h e he => parse_first (by rw [hnb]; exact h) he
  have hresp : ¬ 524288 < nb → Img.first b 0 16 = none → Img.parse b = Img.rest b (Img.number (b.drop 12)) := fun h he => parse_rest (by rw [hnb]; exact h) he
  have hb0 : ∀ (w : World) (n m : Int), (Instr.build 53 #[(0, .int .i64 n), (1, .int .i64 m)]).run Tryd.prog w = .ok (.agg #[.int .i64 n, .int .i64 m]) w := fun w n m => by kernel_rfl
  have h16 : Img.first b 0 16 = none → 16 ≤ nb := fun h => by
    rcases Nat.lt_or_ge b.length 16 with h1 | h1
    · have := Img.none_first 16 0 h b.length (by omega) (by omega)
      rw [Img.stop, if_pos rfl] at this
      cases this
    · omega
  have hbld : ∀ (w : World) (x y z : Int) (ao : Option Addr) (n c : Nat), (Instr.build 27 #[(0, .int .i64 x), (1, .int .i64 y), (2, .int .i64 z), (3, .slice ao n c)]).run Tryd.prog w = .ok (.agg (imC ⟨x, y, z, [], List.replicate 32 0⟩ (.slice ao n c)).toArray) w := fun w x y z ao n c => by kernel_rfl
  have hstop : ∀ k, k < 16 → k < nb → Img.stop b k = if Img.must k (gb b k) then none else some (5, k) := fun k _ hk => by rw [Img.stop, if_neg (by rw [hnb]; omega)]
  have hstop2 : Img.stop b nb = some (6, nb) := by rw [Img.stop, if_pos hnb.symm]
  have hcell : ∀ w, Bytes w (.slice ao nb cap0) b → ∀ k, k < nb → ∃ bb off, ao = some ⟨bb, off, none⟩ ∧ w.cell? ⟨bb, off + k, none⟩ = some (B8 (gb b k)) := fun w h k hk => by
    obtain ⟨bb, off, e, -, hc⟩ := h.at (k := k) (by rw [hnb]; exact hk)
    exact ⟨bb, off, e, hc⟩
  clear hnb
  go_enter Tryd.func13, Tryd.ntmps13
  by_cases hbig : 524288 < nb
  · have hbi : (524288 : Int) < (nb : Int) := by omega
    have hP := hbigp hbig
    clear hbigp hfirp hresp
    go_wp2_with (first
      | ((with_reducible refine gL_alloc (dst := some 2) hM ?_); refine ⟨_, _, hz, ?_⟩; intro gr _ hM2; clear hM; have hM := hM2; clear hM2)
      | ((with_reducible refine gL_box (dst := some 14) hM ?_); refine ⟨_, wrongC 4 524288, 2, rfl, rfl, rfl, ?_⟩; intro ge _ hM2; clear hM; have hM := hM2; clear hM2)
      | ((with_reducible refine gL_build0); refine ⟨_, _, _, _, _, _, hz, (ua_of rfl), (ag_of rfl), (el_of rfl), ?_⟩)
      | go_skip | ((first | (with_reducible refine gL_load ?_) | ((with_reducible refine gG_load ?_ ?_); (exact wanted_of rfl rfl rfl rfl rfl))); refine ⟨_, _, rfl, (by (first | (assumption) | (exact hM.loads_B8 (by (repeat (first | exact .head _ | apply List.Mem.tail)); done) (on_of rfl) (by first | omega | (simp only [Len] at *; omega) | (simp; omega))) | (exact hM.loads_all (by (repeat (first | exact .head _ | apply List.Mem.tail)); done) (ag_of rfl) (by first | assumption | exact Len.map (by assumption) _ | rfl | exact Len.map (by rfl) _ | exact Len.of (by simp; done))) | (exact hM.loads_one (by (repeat (first | exact .head _ | apply List.Mem.tail)); done) (on_of rfl) rfl) | (exact hM.loads_W32 (by (repeat (first | exact .head _ | apply List.Mem.tail)); done) (on_of rfl) (by first | omega | (simp only [Len] at *; omega) | (simp; omega))) | (exact loads_cell (by assumption) (on_of rfl)))), ?_⟩) | ((with_reducible refine gL_store hM ?_); refine ⟨_, _, _, rfl, rfl, (by (first | (exact hM.stores_B8 (by first | exact (rfl : B8 _ = B8 _) | exact lit8 _ (by decide)) (by (repeat (first | exact .here _ _ _ | apply Has.there)); done) (on_of rfl) (by first | omega | (simp only [Len] at *; omega) | (simp; omega))) | (exact hM.stores_all (by (repeat (first | exact .here _ _ _ | apply Has.there)); done) (ag_of rfl) (by first | assumption | exact Len.map (by assumption) _ | rfl | exact Len.map (by rfl) _ | exact Len.of (by simp; done)) (by first | assumption | exact Len.map (by assumption) _ | rfl | exact Len.map (by rfl) _ | exact Len.of (by simp; done)) (by first | exact B8_one | exact W32_one | exact one_of_all rfl)) | (exact hM.stores_W32 rfl (by (repeat (first | exact .here _ _ _ | apply Has.there)); done) (on_of rfl) (by first | omega | (simp only [Len] at *; omega) | (simp; omega))) | (exact hM.stores_one (by (repeat (first | exact .here _ _ _ | apply Has.there)); done) (on_of rfl) (by first | omega | (simp only [Len] at *; omega) | (simp; omega)) rfl rfl))), ?_⟩; intro _ hM2; clear hM; have hM := hM2; clear hM2) | ((with_reducible refine gL_alloc hM ?_); refine ⟨_, _, (zr_of rfl), ?_⟩; intro _ _ hM2; clear hM; have hM := hM2; clear hM2) | ((with_reducible refine gL_box hM ?_); refine ⟨_, _, _, rfl, rfl, (by first | assumption | exact Len.map (by assumption) _ | rfl | exact Len.map (by rfl) _ | exact Len.of (by simp; done)), ?_⟩; intro _ _ hM2; clear hM; have hM := hM2; clear hM2) | ((with_reducible refine gL_build0 ?_); refine ⟨_, _, _, _, _, _, (zr_of rfl), (ua_of rfl), (ag_of rfl), (el_of rfl), ?_⟩) | ((with_reducible refine gL_buildBytes hM ?_); refine ⟨_, _, (us_of rfl), (el_of rfl), (by decide), (by decide), rfl, (by (repeat (first | exact EvB.nil | apply EvB.cons rfl (by first | exact (rfl : B8 _ = B8 _) | exact lit8 _ (by decide)))); done), ?_⟩; intro _ _ hM2; clear hM; have hM := hM2; clear hM2) | ((with_reducible refine gL_append_B hM ?_); refine ⟨_, _, _, _, _, _, _, _, _, _, rfl, rfl, (by first | exact (rfl : Value.slice (some ⟨_, 0, none⟩) _ _ = sl (some _) _ _) | exact (rfl : Value.slice none _ _ = sl none _ _) | rfl), (us_of rfl), (el_of rfl), (by first | exact hM.src (by (repeat (first | exact .head _ | apply List.Mem.tail)); done) | exact (hM.bytes0 (by assumption)).src), (fun _ _ => by (repeat (first | exact .here _ _ _ | apply Swap.there)); done), (by first | assumption | exact Len.map (by assumption) _ | rfl | exact Len.map (by rfl) _ | exact Len.of (by simp; done)), (by first | assumption | exact Len.map (by assumption) _ | rfl | exact Len.map (by rfl) _ | exact Len.of (by simp; done)), (by first | assumption | (simp [maxLen]; done) | omega | (simp [maxLen]; omega)), (by first | omega | (simp only [Len] at *; omega) | (simp; omega)), ?_⟩; intro _ _ _ hM2 _ _; clear hM; have hM := hM2; clear hM2) | ((first | (with_reducible refine gL_field ?_) | ((with_reducible refine gG_field ?_ ?_); (exact wanted_of rfl rfl rfl rfl rfl))); refine ⟨_, _, rfl, (by (first | (exact field_one (fb_of rfl) rfl) | (exact field_agg (fa_of rfl) rfl))), ?_⟩))
    have hM3 : Mem [] w0 _ (⟨some ge, 53, wrongC 4 524288, 2⟩ :: ⟨some gr, 27, imC Img.im0 (.slice none 0 0), 36⟩ :: []) := hM
    exact hM3.ret_cell_tmp rfl rfl rfl rfl (.tail _ (.head _)) (ag_of rfl) hzC (.inr ⟨4, 524288, ge, hP, by decide, rfl, hM3.drop2⟩)
  · have hbi : ¬ (524288 : Int) < (nb : Int) := by omega
    replace hfirp := hfirp hbig
    replace hresp := hresp hbig
    clear hbigp
    go_wp2_with (first
      | ((with_reducible refine gL_alloc (dst := some 2) hM ?_); refine ⟨_, _, hz, ?_⟩; intro gr _ hM2; clear hM; have hM := hM2; clear hM2)
      | go_skip | ((first | (with_reducible refine gL_load ?_) | ((with_reducible refine gG_load ?_ ?_); (exact wanted_of rfl rfl rfl rfl rfl))); refine ⟨_, _, rfl, (by (first | (assumption) | (exact hM.loads_B8 (by (repeat (first | exact .head _ | apply List.Mem.tail)); done) (on_of rfl) (by first | omega | (simp only [Len] at *; omega) | (simp; omega))) | (exact hM.loads_all (by (repeat (first | exact .head _ | apply List.Mem.tail)); done) (ag_of rfl) (by first | assumption | exact Len.map (by assumption) _ | rfl | exact Len.map (by rfl) _ | exact Len.of (by simp; done))) | (exact hM.loads_one (by (repeat (first | exact .head _ | apply List.Mem.tail)); done) (on_of rfl) rfl) | (exact hM.loads_W32 (by (repeat (first | exact .head _ | apply List.Mem.tail)); done) (on_of rfl) (by first | omega | (simp only [Len] at *; omega) | (simp; omega))) | (exact loads_cell (by assumption) (on_of rfl)))), ?_⟩) | ((with_reducible refine gL_store hM ?_); refine ⟨_, _, _, rfl, rfl, (by (first | (exact hM.stores_B8 (by first | exact (rfl : B8 _ = B8 _) | exact lit8 _ (by decide)) (by (repeat (first | exact .here _ _ _ | apply Has.there)); done) (on_of rfl) (by first | omega | (simp only [Len] at *; omega) | (simp; omega))) | (exact hM.stores_all (by (repeat (first | exact .here _ _ _ | apply Has.there)); done) (ag_of rfl) (by first | assumption | exact Len.map (by assumption) _ | rfl | exact Len.map (by rfl) _ | exact Len.of (by simp; done)) (by first | assumption | exact Len.map (by assumption) _ | rfl | exact Len.map (by rfl) _ | exact Len.of (by simp; done)) (by first | exact B8_one | exact W32_one | exact one_of_all rfl)) | (exact hM.stores_W32 rfl (by (repeat (first | exact .here _ _ _ | apply Has.there)); done) (on_of rfl) (by first | omega | (simp only [Len] at *; omega) | (simp; omega))) | (exact hM.stores_one (by (repeat (first | exact .here _ _ _ | apply Has.there)); done) (on_of rfl) (by first | omega | (simp only [Len] at *; omega) | (simp; omega)) rfl rfl))), ?_⟩; intro _ hM2; clear hM; have hM := hM2; clear hM2) | ((with_reducible refine gL_alloc hM ?_); refine ⟨_, _, (zr_of rfl), ?_⟩; intro _ _ hM2; clear hM; have hM := hM2; clear hM2) | ((with_reducible refine gL_box hM ?_); refine ⟨_, _, _, rfl, rfl, (by first | assumption | exact Len.map (by assumption) _ | rfl | exact Len.map (by rfl) _ | exact Len.of (by simp; done)), ?_⟩; intro _ _ hM2; clear hM; have hM := hM2; clear hM2) | ((with_reducible refine gL_build0 ?_); refine ⟨_, _, _, _, _, _, (zr_of rfl), (ua_of rfl), (ag_of rfl), (el_of rfl), ?_⟩) | ((with_reducible refine gL_buildBytes hM ?_); refine ⟨_, _, (us_of rfl), (el_of rfl), (by decide), (by decide), rfl, (by (repeat (first | exact EvB.nil | apply EvB.cons rfl (by first | exact (rfl : B8 _ = B8 _) | exact lit8 _ (by decide)))); done), ?_⟩; intro _ _ hM2; clear hM; have hM := hM2; clear hM2) | ((with_reducible refine gL_append_B hM ?_); refine ⟨_, _, _, _, _, _, _, _, _, _, rfl, rfl, (by first | exact (rfl : Value.slice (some ⟨_, 0, none⟩) _ _ = sl (some _) _ _) | exact (rfl : Value.slice none _ _ = sl none _ _) | rfl), (us_of rfl), (el_of rfl), (by first | exact hM.src (by (repeat (first | exact .head _ | apply List.Mem.tail)); done) | exact (hM.bytes0 (by assumption)).src), (fun _ _ => by (repeat (first | exact .here _ _ _ | apply Swap.there)); done), (by first | assumption | exact Len.map (by assumption) _ | rfl | exact Len.map (by rfl) _ | exact Len.of (by simp; done)), (by first | assumption | exact Len.map (by assumption) _ | rfl | exact Len.map (by rfl) _ | exact Len.of (by simp; done)), (by first | assumption | (simp [maxLen]; done) | omega | (simp [maxLen]; omega)), (by first | omega | (simp only [Len] at *; omega) | (simp; omega)), ?_⟩; intro _ _ _ hM2 _ _; clear hM; have hM := hM2; clear hM2) | ((first | (with_reducible refine gL_field ?_) | ((with_reducible refine gG_field ?_ ?_); (exact wanted_of rfl rfl rfl rfl rfl))); refine ⟨_, _, rfl, (by (first | (exact field_one (fb_of rfl) rfl) | (exact field_agg (fa_of rfl) rfl))), ?_⟩))
    go_loopw [4, 16] (fun _ i wr => ∃ (k : Nat), k ≤ 16 ∧ k ≤ nb ∧ i = .int .i64 k ∧ Img.first b 0 16 = Img.first b k (16 - k) ∧ Mem [] w0 wr (⟨some gr, 27, imC Img.im0 (.slice none 0 0), 36⟩ :: [])) (fun _ i _ => 16 - (intOf i).toNat)
    case atStart => exact ⟨0, by omega, by omega, rfl, rfl, hM⟩
    case round =>
      clear hM
      obtain ⟨k, hk, hkn, rfl, hfk, hM⟩ := hrel
      by_cases hlt : k < 16
      · have hti : (k : Int) < 16 := by omega
        by_cases hend : k = nb
        · subst hend
          have hP := hfirp (6, k) (by rw [hfk, show 16 - k = (15 - k) + 1 from by omega]; exact Img.first_end hstop2)
          clear hfirp hresp hfk hstop hstop2 hcell h16
          go_wp2_with (first
            | ((with_reducible refine gL_box (dst := some 27) hM ?_); refine ⟨_, [.int .i64 6, .int .i64 (k : Int)], 2, rfl, rfl, rfl, ?_⟩; intro ge _ hM2; clear hM; have hM := hM2; clear hM2)
            | go_skip | ((first | (with_reducible refine gL_load ?_) | ((with_reducible refine gG_load ?_ ?_); (exact wanted_of rfl rfl rfl rfl rfl))); refine ⟨_, _, rfl, (by (first | (assumption) | (exact hM.loads_B8 (by (repeat (first | exact .head _ | apply List.Mem.tail)); done) (on_of rfl) (by first | omega | (simp only [Len] at *; omega) | (simp; omega))) | (exact hM.loads_all (by (repeat (first | exact .head _ | apply List.Mem.tail)); done) (ag_of rfl) (by first | assumption | exact Len.map (by assumption) _ | rfl | exact Len.map (by rfl) _ | exact Len.of (by simp; done))) | (exact hM.loads_one (by (repeat (first | exact .head _ | apply List.Mem.tail)); done) (on_of rfl) rfl) | (exact hM.loads_W32 (by (repeat (first | exact .head _ | apply List.Mem.tail)); done) (on_of rfl) (by first | omega | (simp only [Len] at *; omega) | (simp; omega))) | (exact loads_cell (by assumption) (on_of rfl)))), ?_⟩) | ((with_reducible refine gL_store hM ?_); refine ⟨_, _, _, rfl, rfl, (by (first | (exact hM.stores_B8 (by first | exact (rfl : B8 _ = B8 _) | exact lit8 _ (by decide)) (by (repeat (first | exact .here _ _ _ | apply Has.there)); done) (on_of rfl) (by first | omega | (simp only [Len] at *; omega) | (simp; omega))) | (exact hM.stores_all (by (repeat (first | exact .here _ _ _ | apply Has.there)); done) (ag_of rfl) (by first | assumption | exact Len.map (by assumption) _ | rfl | exact Len.map (by rfl) _ | exact Len.of (by simp; done)) (by first | assumption | exact Len.map (by assumption) _ | rfl | exact Len.map (by rfl) _ | exact Len.of (by simp; done)) (by first | exact B8_one | exact W32_one | exact one_of_all rfl)) | (exact hM.stores_W32 rfl (by (repeat (first | exact .here _ _ _ | apply Has.there)); done) (on_of rfl) (by first | omega | (simp only [Len] at *; omega) | (simp; omega))) | (exact hM.stores_one (by (repeat (first | exact .here _ _ _ | apply Has.there)); done) (on_of rfl) (by first | omega | (simp only [Len] at *; omega) | (simp; omega)) rfl rfl))), ?_⟩; intro _ hM2; clear hM; have hM := hM2; clear hM2) | ((with_reducible refine gL_alloc hM ?_); refine ⟨_, _, (zr_of rfl), ?_⟩; intro _ _ hM2; clear hM; have hM := hM2; clear hM2) | ((with_reducible refine gL_box hM ?_); refine ⟨_, _, _, rfl, rfl, (by first | assumption | exact Len.map (by assumption) _ | rfl | exact Len.map (by rfl) _ | exact Len.of (by simp; done)), ?_⟩; intro _ _ hM2; clear hM; have hM := hM2; clear hM2) | ((with_reducible refine gL_build0 ?_); refine ⟨_, _, _, _, _, _, (zr_of rfl), (ua_of rfl), (ag_of rfl), (el_of rfl), ?_⟩) | ((with_reducible refine gL_buildBytes hM ?_); refine ⟨_, _, (us_of rfl), (el_of rfl), (by decide), (by decide), rfl, (by (repeat (first | exact EvB.nil | apply EvB.cons rfl (by first | exact (rfl : B8 _ = B8 _) | exact lit8 _ (by decide)))); done), ?_⟩; intro _ _ hM2; clear hM; have hM := hM2; clear hM2) | ((with_reducible refine gL_append_B hM ?_); refine ⟨_, _, _, _, _, _, _, _, _, _, rfl, rfl, (by first | exact (rfl : Value.slice (some ⟨_, 0, none⟩) _ _ = sl (some _) _ _) | exact (rfl : Value.slice none _ _ = sl none _ _) | rfl), (us_of rfl), (el_of rfl), (by first | exact hM.src (by (repeat (first | exact .head _ | apply List.Mem.tail)); done) | exact (hM.bytes0 (by assumption)).src), (fun _ _ => by (repeat (first | exact .here _ _ _ | apply Swap.there)); done), (by first | assumption | exact Len.map (by assumption) _ | rfl | exact Len.map (by rfl) _ | exact Len.of (by simp; done)), (by first | assumption | exact Len.map (by assumption) _ | rfl | exact Len.map (by rfl) _ | exact Len.of (by simp; done)), (by first | assumption | (simp [maxLen]; done) | omega | (simp [maxLen]; omega)), (by first | omega | (simp only [Len] at *; omega) | (simp; omega)), ?_⟩; intro _ _ _ hM2 _ _; clear hM; have hM := hM2; clear hM2) | ((first | (with_reducible refine gL_field ?_) | ((with_reducible refine gG_field ?_ ?_); (exact wanted_of rfl rfl rfl rfl rfl))); refine ⟨_, _, rfl, (by (first | (exact field_one (fb_of rfl) rfl) | (exact field_agg (fa_of rfl) rfl))), ?_⟩))
          have hM3 : Mem [] w0 _ (⟨some ge, 53, wrongC 6 k, 2⟩ :: ⟨some gr, 27, imC Img.im0 (.slice none 0 0), 36⟩ :: []) := hM
          exact hM3.ret_cell_tmp rfl rfl rfl rfl (.tail _ (.head _)) (ag_of rfl) hzC (.inr ⟨6, k, ge, hP, by decide, rfl, hM3.drop2⟩)
        · have hkl : k < nb := by omega
          have hki : (k : Int) < (nb : Int) := by omega
          have hne : ¬ (k : Int) = (nb : Int) := by omega
          obtain ⟨bb, off, rfl, hc⟩ := hcell _ (hM.bytes0 hv) k hkl
          have hs := hstop k hlt hkl
          by_cases hm : Img.must k (gb b k) = true
          · rw [if_pos hm] at hs
            have hf2 : Img.first b 0 16 = Img.first b (k + 1) (16 - (k + 1)) := by rw [hfk, show 16 - k = (16 - (k + 1)) + 1 from by omega]; exact Img.first_step hs
            have hcall : ∀ w, Calls Tryd.prog 28 #[.int .i64 (k : Int), B8 (gb b k)] w fun e w' => e = .returned (.bool true) ∧ w' = w := fun w => hm ▸ image_may w k hlt _
            generalize gb b k = c at *
            clear hfirp hresp hfk hstop hstop2 hcell h16 hs hm
            go_wp2_with (first
              | ((with_reducible refine gL_load (dst := some 34) ?_); refine ⟨_, _, rfl, loads_cell hc (on_of rfl), ?_⟩)
              | (go_at_call 28; (with_reducible refine (hcall _).mono ?_); rintro _ _ ⟨rfl, rfl⟩))
            go_roundw
            case rel => exact ⟨k + 1, by omega, by omega, by go_num, hf2, hM⟩
            case measure => simp [intOf]; omega
          · replace hm : Img.must k (gb b k) = false := by simpa using hm
            rw [hm] at hs
            have hP := hfirp (5, k) (by rw [hfk, show 16 - k = (15 - k) + 1 from by omega]; exact Img.first_end hs)
            have hcall : ∀ w, Calls Tryd.prog 28 #[.int .i64 (k : Int), B8 (gb b k)] w fun e w' => e = .returned (.bool false) ∧ w' = w := fun w => hm ▸ image_may w k hlt _
            generalize gb b k = c at *
            clear hfirp hresp hfk hstop hstop2 hcell h16 hs hm
            go_wp2_with (first
              | ((with_reducible refine gL_load (dst := some 34) ?_); refine ⟨_, _, rfl, loads_cell hc (on_of rfl), ?_⟩)
              | (go_at_call 28; (with_reducible refine (hcall _).mono ?_); rintro _ _ ⟨rfl, rfl⟩)
              | ((with_reducible refine gL_box (dst := some 40) hM ?_); refine ⟨_, [.int .i64 5, .int .i64 (k : Int)], 2, rfl, rfl, rfl, ?_⟩; intro ge _ hM2; clear hM; have hM := hM2; clear hM2)
              | go_skip | ((first | (with_reducible refine gL_load ?_) | ((with_reducible refine gG_load ?_ ?_); (exact wanted_of rfl rfl rfl rfl rfl))); refine ⟨_, _, rfl, (by (first | (assumption) | (exact hM.loads_B8 (by (repeat (first | exact .head _ | apply List.Mem.tail)); done) (on_of rfl) (by first | omega | (simp only [Len] at *; omega) | (simp; omega))) | (exact hM.loads_all (by (repeat (first | exact .head _ | apply List.Mem.tail)); done) (ag_of rfl) (by first | assumption | exact Len.map (by assumption) _ | rfl | exact Len.map (by rfl) _ | exact Len.of (by simp; done))) | (exact hM.loads_one (by (repeat (first | exact .head _ | apply List.Mem.tail)); done) (on_of rfl) rfl) | (exact hM.loads_W32 (by (repeat (first | exact .head _ | apply List.Mem.tail)); done) (on_of rfl) (by first | omega | (simp only [Len] at *; omega) | (simp; omega))) | (exact loads_cell (by assumption) (on_of rfl)))), ?_⟩) | ((with_reducible refine gL_store hM ?_); refine ⟨_, _, _, rfl, rfl, (by (first | (exact hM.stores_B8 (by first | exact (rfl : B8 _ = B8 _) | exact lit8 _ (by decide)) (by (repeat (first | exact .here _ _ _ | apply Has.there)); done) (on_of rfl) (by first | omega | (simp only [Len] at *; omega) | (simp; omega))) | (exact hM.stores_all (by (repeat (first | exact .here _ _ _ | apply Has.there)); done) (ag_of rfl) (by first | assumption | exact Len.map (by assumption) _ | rfl | exact Len.map (by rfl) _ | exact Len.of (by simp; done)) (by first | assumption | exact Len.map (by assumption) _ | rfl | exact Len.map (by rfl) _ | exact Len.of (by simp; done)) (by first | exact B8_one | exact W32_one | exact one_of_all rfl)) | (exact hM.stores_W32 rfl (by (repeat (first | exact .here _ _ _ | apply Has.there)); done) (on_of rfl) (by first | omega | (simp only [Len] at *; omega) | (simp; omega))) | (exact hM.stores_one (by (repeat (first | exact .here _ _ _ | apply Has.there)); done) (on_of rfl) (by first | omega | (simp only [Len] at *; omega) | (simp; omega)) rfl rfl))), ?_⟩; intro _ hM2; clear hM; have hM := hM2; clear hM2) | ((with_reducible refine gL_alloc hM ?_); refine ⟨_, _, (zr_of rfl), ?_⟩; intro _ _ hM2; clear hM; have hM := hM2; clear hM2) | ((with_reducible refine gL_box hM ?_); refine ⟨_, _, _, rfl, rfl, (by first | assumption | exact Len.map (by assumption) _ | rfl | exact Len.map (by rfl) _ | exact Len.of (by simp; done)), ?_⟩; intro _ _ hM2; clear hM; have hM := hM2; clear hM2) | ((with_reducible refine gL_build0 ?_); refine ⟨_, _, _, _, _, _, (zr_of rfl), (ua_of rfl), (ag_of rfl), (el_of rfl), ?_⟩) | ((with_reducible refine gL_buildBytes hM ?_); refine ⟨_, _, (us_of rfl), (el_of rfl), (by decide), (by decide), rfl, (by (repeat (first | exact EvB.nil | apply EvB.cons rfl (by first | exact (rfl : B8 _ = B8 _) | exact lit8 _ (by decide)))); done), ?_⟩; intro _ _ hM2; clear hM; have hM := hM2; clear hM2) | ((with_reducible refine gL_append_B hM ?_); refine ⟨_, _, _, _, _, _, _, _, _, _, rfl, rfl, (by first | exact (rfl : Value.slice (some ⟨_, 0, none⟩) _ _ = sl (some _) _ _) | exact (rfl : Value.slice none _ _ = sl none _ _) | rfl), (us_of rfl), (el_of rfl), (by first | exact hM.src (by (repeat (first | exact .head _ | apply List.Mem.tail)); done) | exact (hM.bytes0 (by assumption)).src), (fun _ _ => by (repeat (first | exact .here _ _ _ | apply Swap.there)); done), (by first | assumption | exact Len.map (by assumption) _ | rfl | exact Len.map (by rfl) _ | exact Len.of (by simp; done)), (by first | assumption | exact Len.map (by assumption) _ | rfl | exact Len.map (by rfl) _ | exact Len.of (by simp; done)), (by first | assumption | (simp [maxLen]; done) | omega | (simp [maxLen]; omega)), (by first | omega | (simp only [Len] at *; omega) | (simp; omega)), ?_⟩; intro _ _ _ hM2 _ _; clear hM; have hM := hM2; clear hM2) | ((first | (with_reducible refine gL_field ?_) | ((with_reducible refine gG_field ?_ ?_); (exact wanted_of rfl rfl rfl rfl rfl))); refine ⟨_, _, rfl, (by (first | (exact field_one (fb_of rfl) rfl) | (exact field_agg (fa_of rfl) rfl))), ?_⟩))
            have hM3 : Mem [] w0 _ (⟨some ge, 53, wrongC 5 k, 2⟩ :: ⟨some gr, 27, imC Img.im0 (.slice none 0 0), 36⟩ :: []) := hM
            exact hM3.ret_cell_tmp rfl rfl rfl rfl (.tail _ (.head _)) (ag_of rfl) hzC (.inr ⟨5, k, ge, hP, by decide, rfl, hM3.drop2⟩)
      · have hke : k = 16 := by omega
        subst hke
        replace hresp := hresp hfk
        have hn16 := h16 hfk
        clear hfirp hfk hstop hstop2 h16
        have hB := hM.bytes0 hv
        obtain ⟨ao2, hS12, hB12, -⟩ := bytes_from (P := Tryd.prog) hB (t := 23) (us_of rfl) (by exact elOne rfl) (k := 12) (by omega)
        have hnum := image_number _ _ _ _ _ hB12 (by omega)
        obtain ⟨N, hN⟩ : ∃ N, N = Img.number (b.drop 12) := ⟨_, rfl⟩
        have hNlt : N < 4294967296 := by rw [hN]; exact Img.number_lt _
        rw [← hN] at hnum hresp
        clear hN
        go_wp2_with (first
          | ((with_reducible refine gL_slice (dst := some 44) ?_); refine ⟨_, hS12, ?_⟩)
          | go_skip | ((first | (with_reducible refine gL_load ?_) | ((with_reducible refine gG_load ?_ ?_); (exact wanted_of rfl rfl rfl rfl rfl))); refine ⟨_, _, rfl, (by (first | (assumption) | (exact hM.loads_B8 (by (repeat (first | exact .head _ | apply List.Mem.tail)); done) (on_of rfl) (by first | omega | (simp only [Len] at *; omega) | (simp; omega))) | (exact hM.loads_all (by (repeat (first | exact .head _ | apply List.Mem.tail)); done) (ag_of rfl) (by first | assumption | exact Len.map (by assumption) _ | rfl | exact Len.map (by rfl) _ | exact Len.of (by simp; done))) | (exact hM.loads_one (by (repeat (first | exact .head _ | apply List.Mem.tail)); done) (on_of rfl) rfl) | (exact hM.loads_W32 (by (repeat (first | exact .head _ | apply List.Mem.tail)); done) (on_of rfl) (by first | omega | (simp only [Len] at *; omega) | (simp; omega))) | (exact loads_cell (by assumption) (on_of rfl)))), ?_⟩) | ((with_reducible refine gL_store hM ?_); refine ⟨_, _, _, rfl, rfl, (by (first | (exact hM.stores_B8 (by first | exact (rfl : B8 _ = B8 _) | exact lit8 _ (by decide)) (by (repeat (first | exact .here _ _ _ | apply Has.there)); done) (on_of rfl) (by first | omega | (simp only [Len] at *; omega) | (simp; omega))) | (exact hM.stores_all (by (repeat (first | exact .here _ _ _ | apply Has.there)); done) (ag_of rfl) (by first | assumption | exact Len.map (by assumption) _ | rfl | exact Len.map (by rfl) _ | exact Len.of (by simp; done)) (by first | assumption | exact Len.map (by assumption) _ | rfl | exact Len.map (by rfl) _ | exact Len.of (by simp; done)) (by first | exact B8_one | exact W32_one | exact one_of_all rfl)) | (exact hM.stores_W32 rfl (by (repeat (first | exact .here _ _ _ | apply Has.there)); done) (on_of rfl) (by first | omega | (simp only [Len] at *; omega) | (simp; omega))) | (exact hM.stores_one (by (repeat (first | exact .here _ _ _ | apply Has.there)); done) (on_of rfl) (by first | omega | (simp only [Len] at *; omega) | (simp; omega)) rfl rfl))), ?_⟩; intro _ hM2; clear hM; have hM := hM2; clear hM2) | ((with_reducible refine gL_alloc hM ?_); refine ⟨_, _, (zr_of rfl), ?_⟩; intro _ _ hM2; clear hM; have hM := hM2; clear hM2) | ((with_reducible refine gL_box hM ?_); refine ⟨_, _, _, rfl, rfl, (by first | assumption | exact Len.map (by assumption) _ | rfl | exact Len.map (by rfl) _ | exact Len.of (by simp; done)), ?_⟩; intro _ _ hM2; clear hM; have hM := hM2; clear hM2) | ((with_reducible refine gL_build0 ?_); refine ⟨_, _, _, _, _, _, (zr_of rfl), (ua_of rfl), (ag_of rfl), (el_of rfl), ?_⟩) | ((with_reducible refine gL_buildBytes hM ?_); refine ⟨_, _, (us_of rfl), (el_of rfl), (by decide), (by decide), rfl, (by (repeat (first | exact EvB.nil | apply EvB.cons rfl (by first | exact (rfl : B8 _ = B8 _) | exact lit8 _ (by decide)))); done), ?_⟩; intro _ _ hM2; clear hM; have hM := hM2; clear hM2) | ((with_reducible refine gL_append_B hM ?_); refine ⟨_, _, _, _, _, _, _, _, _, _, rfl, rfl, (by first | exact (rfl : Value.slice (some ⟨_, 0, none⟩) _ _ = sl (some _) _ _) | exact (rfl : Value.slice none _ _ = sl none _ _) | rfl), (us_of rfl), (el_of rfl), (by first | exact hM.src (by (repeat (first | exact .head _ | apply List.Mem.tail)); done) | exact (hM.bytes0 (by assumption)).src), (fun _ _ => by (repeat (first | exact .here _ _ _ | apply Swap.there)); done), (by first | assumption | exact Len.map (by assumption) _ | rfl | exact Len.map (by rfl) _ | exact Len.of (by simp; done)), (by first | assumption | exact Len.map (by assumption) _ | rfl | exact Len.map (by rfl) _ | exact Len.of (by simp; done)), (by first | assumption | (simp [maxLen]; done) | omega | (simp [maxLen]; omega)), (by first | omega | (simp only [Len] at *; omega) | (simp; omega)), ?_⟩; intro _ _ _ hM2 _ _; clear hM; have hM := hM2; clear hM2) | ((first | (with_reducible refine gL_field ?_) | ((with_reducible refine gG_field ?_ ?_); (exact wanted_of rfl rfl rfl rfl rfl))); refine ⟨_, _, rfl, (by (first | (exact field_one (fb_of rfl) rfl) | (exact field_agg (fa_of rfl) rfl))), ?_⟩))
        refine hnum.mono ?_
        clear hnum hB12 hS12 hB
        rintro _ w1 ⟨rfl, B1⟩
        replace hM := hM.adds B1
        clear B1
        obtain ⟨M, hMd⟩ : ∃ M, M = 16 + N := ⟨_, rfl⟩
        obtain ⟨E, hEd⟩ : ∃ E, E = N + 48 := ⟨_, rfl⟩
        have he1 : 16 + (N : Int) = (M : Int) := by omega
        have he2 : (M : Int) + 32 = (E : Int) := by omega
        have HMd : ∀ _ : Unit, M = 16 + N := fun _ => hMd
        have HEd : ∀ _ : Unit, E = N + 48 := fun _ => hEd
        have hEl : E ≤ 4294967400 := by omega
        have hNE : N + 48 = E := hEd.symm
        have hlo : 524240 < N ↔ 524288 < E := by omega
        clear hMd hEd
        by_cases hlong : 524240 < N
        · have hP := hresp.trans (rest_long hlong)
          have hli : (524288 : Int) < (E : Int) := by have := hlo.1 hlong; omega
          clear hlo hresp hcell hNE
          go_wp2_with (first
            | ((with_reducible refine gL_box (dst := some 54) hM ?_); refine ⟨_, [.int .i64 5, .int .i64 12], 2, rfl, rfl, rfl, ?_⟩; intro ge _ hM2; clear hM; have hM := hM2; clear hM2)
            | go_skip | ((first | (with_reducible refine gL_load ?_) | ((with_reducible refine gG_load ?_ ?_); (exact wanted_of rfl rfl rfl rfl rfl))); refine ⟨_, _, rfl, (by (first | (assumption) | (exact hM.loads_B8 (by (repeat (first | exact .head _ | apply List.Mem.tail)); done) (on_of rfl) (by first | omega | (simp only [Len] at *; omega) | (simp; omega))) | (exact hM.loads_all (by (repeat (first | exact .head _ | apply List.Mem.tail)); done) (ag_of rfl) (by first | assumption | exact Len.map (by assumption) _ | rfl | exact Len.map (by rfl) _ | exact Len.of (by simp; done))) | (exact hM.loads_one (by (repeat (first | exact .head _ | apply List.Mem.tail)); done) (on_of rfl) rfl) | (exact hM.loads_W32 (by (repeat (first | exact .head _ | apply List.Mem.tail)); done) (on_of rfl) (by first | omega | (simp only [Len] at *; omega) | (simp; omega))) | (exact loads_cell (by assumption) (on_of rfl)))), ?_⟩) | ((with_reducible refine gL_store hM ?_); refine ⟨_, _, _, rfl, rfl, (by (first | (exact hM.stores_B8 (by first | exact (rfl : B8 _ = B8 _) | exact lit8 _ (by decide)) (by (repeat (first | exact .here _ _ _ | apply Has.there)); done) (on_of rfl) (by first | omega | (simp only [Len] at *; omega) | (simp; omega))) | (exact hM.stores_all (by (repeat (first | exact .here _ _ _ | apply Has.there)); done) (ag_of rfl) (by first | assumption | exact Len.map (by assumption) _ | rfl | exact Len.map (by rfl) _ | exact Len.of (by simp; done)) (by first | assumption | exact Len.map (by assumption) _ | rfl | exact Len.map (by rfl) _ | exact Len.of (by simp; done)) (by first | exact B8_one | exact W32_one | exact one_of_all rfl)) | (exact hM.stores_W32 rfl (by (repeat (first | exact .here _ _ _ | apply Has.there)); done) (on_of rfl) (by first | omega | (simp only [Len] at *; omega) | (simp; omega))) | (exact hM.stores_one (by (repeat (first | exact .here _ _ _ | apply Has.there)); done) (on_of rfl) (by first | omega | (simp only [Len] at *; omega) | (simp; omega)) rfl rfl))), ?_⟩; intro _ hM2; clear hM; have hM := hM2; clear hM2) | ((with_reducible refine gL_alloc hM ?_); refine ⟨_, _, (zr_of rfl), ?_⟩; intro _ _ hM2; clear hM; have hM := hM2; clear hM2) | ((with_reducible refine gL_box hM ?_); refine ⟨_, _, _, rfl, rfl, (by first | assumption | exact Len.map (by assumption) _ | rfl | exact Len.map (by rfl) _ | exact Len.of (by simp; done)), ?_⟩; intro _ _ hM2; clear hM; have hM := hM2; clear hM2) | ((with_reducible refine gL_build0 ?_); refine ⟨_, _, _, _, _, _, (zr_of rfl), (ua_of rfl), (ag_of rfl), (el_of rfl), ?_⟩) | ((with_reducible refine gL_buildBytes hM ?_); refine ⟨_, _, (us_of rfl), (el_of rfl), (by decide), (by decide), rfl, (by (repeat (first | exact EvB.nil | apply EvB.cons rfl (by first | exact (rfl : B8 _ = B8 _) | exact lit8 _ (by decide)))); done), ?_⟩; intro _ _ hM2; clear hM; have hM := hM2; clear hM2) | ((with_reducible refine gL_append_B hM ?_); refine ⟨_, _, _, _, _, _, _, _, _, _, rfl, rfl, (by first | exact (rfl : Value.slice (some ⟨_, 0, none⟩) _ _ = sl (some _) _ _) | exact (rfl : Value.slice none _ _ = sl none _ _) | rfl), (us_of rfl), (el_of rfl), (by first | exact hM.src (by (repeat (first | exact .head _ | apply List.Mem.tail)); done) | exact (hM.bytes0 (by assumption)).src), (fun _ _ => by (repeat (first | exact .here _ _ _ | apply Swap.there)); done), (by first | assumption | exact Len.map (by assumption) _ | rfl | exact Len.map (by rfl) _ | exact Len.of (by simp; done)), (by first | assumption | exact Len.map (by assumption) _ | rfl | exact Len.map (by rfl) _ | exact Len.of (by simp; done)), (by first | assumption | (simp [maxLen]; done) | omega | (simp [maxLen]; omega)), (by first | omega | (simp only [Len] at *; omega) | (simp; omega)), ?_⟩; intro _ _ _ hM2 _ _; clear hM; have hM := hM2; clear hM2) | ((first | (with_reducible refine gL_field ?_) | ((with_reducible refine gG_field ?_ ?_); (exact wanted_of rfl rfl rfl rfl rfl))); refine ⟨_, _, rfl, (by (first | (exact field_one (fb_of rfl) rfl) | (exact field_agg (fa_of rfl) rfl))), ?_⟩))
          have hM3 : Mem [] w0 _ (⟨some ge, 53, wrongC 5 12, 2⟩ :: ⟨some gr, 27, imC Img.im0 (.slice none 0 0), 36⟩ :: []) := hM
          exact hM3.ret_cell_tmp rfl rfl rfl rfl (.tail _ (.head _)) (ag_of rfl) hzC (.inr ⟨5, 12, ge, hP, by decide, rfl, hM3.drop2⟩)
        · have hli : ¬ (524288 : Int) < (E : Int) := by have := mt hlo.2 hlong; omega
          clear hlo
          by_cases hshort : nb < E
          · have hP := hresp.trans (rest_short hbl2 hlong (by rw [hNE]; exact hshort))
            have hsi : (nb : Int) < (E : Int) := by omega
            clear hlong hshort hresp hcell hNE
            go_wp2_with (first
              | ((with_reducible refine gL_box (dst := some 65) hM ?_); refine ⟨_, [.int .i64 6, .int .i64 (nb : Int)], 2, rfl, rfl, rfl, ?_⟩; intro ge _ hM2; clear hM; have hM := hM2; clear hM2)
              | go_skip | ((first | (with_reducible refine gL_load ?_) | ((with_reducible refine gG_load ?_ ?_); (exact wanted_of rfl rfl rfl rfl rfl))); refine ⟨_, _, rfl, (by (first | (assumption) | (exact hM.loads_B8 (by (repeat (first | exact .head _ | apply List.Mem.tail)); done) (on_of rfl) (by first | omega | (simp only [Len] at *; omega) | (simp; omega))) | (exact hM.loads_all (by (repeat (first | exact .head _ | apply List.Mem.tail)); done) (ag_of rfl) (by first | assumption | exact Len.map (by assumption) _ | rfl | exact Len.map (by rfl) _ | exact Len.of (by simp; done))) | (exact hM.loads_one (by (repeat (first | exact .head _ | apply List.Mem.tail)); done) (on_of rfl) rfl) | (exact hM.loads_W32 (by (repeat (first | exact .head _ | apply List.Mem.tail)); done) (on_of rfl) (by first | omega | (simp only [Len] at *; omega) | (simp; omega))) | (exact loads_cell (by assumption) (on_of rfl)))), ?_⟩) | ((with_reducible refine gL_store hM ?_); refine ⟨_, _, _, rfl, rfl, (by (first | (exact hM.stores_B8 (by first | exact (rfl : B8 _ = B8 _) | exact lit8 _ (by decide)) (by (repeat (first | exact .here _ _ _ | apply Has.there)); done) (on_of rfl) (by first | omega | (simp only [Len] at *; omega) | (simp; omega))) | (exact hM.stores_all (by (repeat (first | exact .here _ _ _ | apply Has.there)); done) (ag_of rfl) (by first | assumption | exact Len.map (by assumption) _ | rfl | exact Len.map (by rfl) _ | exact Len.of (by simp; done)) (by first | assumption | exact Len.map (by assumption) _ | rfl | exact Len.map (by rfl) _ | exact Len.of (by simp; done)) (by first | exact B8_one | exact W32_one | exact one_of_all rfl)) | (exact hM.stores_W32 rfl (by (repeat (first | exact .here _ _ _ | apply Has.there)); done) (on_of rfl) (by first | omega | (simp only [Len] at *; omega) | (simp; omega))) | (exact hM.stores_one (by (repeat (first | exact .here _ _ _ | apply Has.there)); done) (on_of rfl) (by first | omega | (simp only [Len] at *; omega) | (simp; omega)) rfl rfl))), ?_⟩; intro _ hM2; clear hM; have hM := hM2; clear hM2) | ((with_reducible refine gL_alloc hM ?_); refine ⟨_, _, (zr_of rfl), ?_⟩; intro _ _ hM2; clear hM; have hM := hM2; clear hM2) | ((with_reducible refine gL_box hM ?_); refine ⟨_, _, _, rfl, rfl, (by first | assumption | exact Len.map (by assumption) _ | rfl | exact Len.map (by rfl) _ | exact Len.of (by simp; done)), ?_⟩; intro _ _ hM2; clear hM; have hM := hM2; clear hM2) | ((with_reducible refine gL_build0 ?_); refine ⟨_, _, _, _, _, _, (zr_of rfl), (ua_of rfl), (ag_of rfl), (el_of rfl), ?_⟩) | ((with_reducible refine gL_buildBytes hM ?_); refine ⟨_, _, (us_of rfl), (el_of rfl), (by decide), (by decide), rfl, (by (repeat (first | exact EvB.nil | apply EvB.cons rfl (by first | exact (rfl : B8 _ = B8 _) | exact lit8 _ (by decide)))); done), ?_⟩; intro _ _ hM2; clear hM; have hM := hM2; clear hM2) | ((with_reducible refine gL_append_B hM ?_); refine ⟨_, _, _, _, _, _, _, _, _, _, rfl, rfl, (by first | exact (rfl : Value.slice (some ⟨_, 0, none⟩) _ _ = sl (some _) _ _) | exact (rfl : Value.slice none _ _ = sl none _ _) | rfl), (us_of rfl), (el_of rfl), (by first | exact hM.src (by (repeat (first | exact .head _ | apply List.Mem.tail)); done) | exact (hM.bytes0 (by assumption)).src), (fun _ _ => by (repeat (first | exact .here _ _ _ | apply Swap.there)); done), (by first | assumption | exact Len.map (by assumption) _ | rfl | exact Len.map (by rfl) _ | exact Len.of (by simp; done)), (by first | assumption | exact Len.map (by assumption) _ | rfl | exact Len.map (by rfl) _ | exact Len.of (by simp; done)), (by first | assumption | (simp [maxLen]; done) | omega | (simp [maxLen]; omega)), (by first | omega | (simp only [Len] at *; omega) | (simp; omega)), ?_⟩; intro _ _ _ hM2 _ _; clear hM; have hM := hM2; clear hM2) | ((first | (with_reducible refine gL_field ?_) | ((with_reducible refine gG_field ?_ ?_); (exact wanted_of rfl rfl rfl rfl rfl))); refine ⟨_, _, rfl, (by (first | (exact field_one (fb_of rfl) rfl) | (exact field_agg (fa_of rfl) rfl))), ?_⟩))
            have hM3 : Mem [] w0 _ (⟨some ge, 53, wrongC 6 nb, 2⟩ :: ⟨some gr, 27, imC Img.im0 (.slice none 0 0), 36⟩ :: []) := hM
            exact hM3.ret_cell_tmp rfl rfl rfl rfl (.tail _ (.head _)) (ag_of rfl) hzC (.inr ⟨6, nb, ge, hP, by decide, rfl, hM3.drop2⟩)
          · have hsi : ¬ (nb : Int) < (E : Int) := by omega
            by_cases hmore : E < nb
            · have hP := hresp.trans (rest_more hbl2 hlong (by rw [hNE]; exact hshort) (by rw [hNE]; exact hmore))
              rw [hNE] at hP
              have hmi : (E : Int) < (nb : Int) := by omega
              clear hlong hshort hmore hresp hcell hNE
              go_wp2_with (first
                | ((with_reducible refine gL_box (dst := some 75) hM ?_); refine ⟨_, [.int .i64 7, .int .i64 (E : Int)], 2, rfl, rfl, rfl, ?_⟩; intro ge _ hM2; clear hM; have hM := hM2; clear hM2)
                | go_skip | ((first | (with_reducible refine gL_load ?_) | ((with_reducible refine gG_load ?_ ?_); (exact wanted_of rfl rfl rfl rfl rfl))); refine ⟨_, _, rfl, (by (first | (assumption) | (exact hM.loads_B8 (by (repeat (first | exact .head _ | apply List.Mem.tail)); done) (on_of rfl) (by first | omega | (simp only [Len] at *; omega) | (simp; omega))) | (exact hM.loads_all (by (repeat (first | exact .head _ | apply List.Mem.tail)); done) (ag_of rfl) (by first | assumption | exact Len.map (by assumption) _ | rfl | exact Len.map (by rfl) _ | exact Len.of (by simp; done))) | (exact hM.loads_one (by (repeat (first | exact .head _ | apply List.Mem.tail)); done) (on_of rfl) rfl) | (exact hM.loads_W32 (by (repeat (first | exact .head _ | apply List.Mem.tail)); done) (on_of rfl) (by first | omega | (simp only [Len] at *; omega) | (simp; omega))) | (exact loads_cell (by assumption) (on_of rfl)))), ?_⟩) | ((with_reducible refine gL_store hM ?_); refine ⟨_, _, _, rfl, rfl, (by (first | (exact hM.stores_B8 (by first | exact (rfl : B8 _ = B8 _) | exact lit8 _ (by decide)) (by (repeat (first | exact .here _ _ _ | apply Has.there)); done) (on_of rfl) (by first | omega | (simp only [Len] at *; omega) | (simp; omega))) | (exact hM.stores_all (by (repeat (first | exact .here _ _ _ | apply Has.there)); done) (ag_of rfl) (by first | assumption | exact Len.map (by assumption) _ | rfl | exact Len.map (by rfl) _ | exact Len.of (by simp; done)) (by first | assumption | exact Len.map (by assumption) _ | rfl | exact Len.map (by rfl) _ | exact Len.of (by simp; done)) (by first | exact B8_one | exact W32_one | exact one_of_all rfl)) | (exact hM.stores_W32 rfl (by (repeat (first | exact .here _ _ _ | apply Has.there)); done) (on_of rfl) (by first | omega | (simp only [Len] at *; omega) | (simp; omega))) | (exact hM.stores_one (by (repeat (first | exact .here _ _ _ | apply Has.there)); done) (on_of rfl) (by first | omega | (simp only [Len] at *; omega) | (simp; omega)) rfl rfl))), ?_⟩; intro _ hM2; clear hM; have hM := hM2; clear hM2) | ((with_reducible refine gL_alloc hM ?_); refine ⟨_, _, (zr_of rfl), ?_⟩; intro _ _ hM2; clear hM; have hM := hM2; clear hM2) | ((with_reducible refine gL_box hM ?_); refine ⟨_, _, _, rfl, rfl, (by first | assumption | exact Len.map (by assumption) _ | rfl | exact Len.map (by rfl) _ | exact Len.of (by simp; done)), ?_⟩; intro _ _ hM2; clear hM; have hM := hM2; clear hM2) | ((with_reducible refine gL_build0 ?_); refine ⟨_, _, _, _, _, _, (zr_of rfl), (ua_of rfl), (ag_of rfl), (el_of rfl), ?_⟩) | ((with_reducible refine gL_buildBytes hM ?_); refine ⟨_, _, (us_of rfl), (el_of rfl), (by decide), (by decide), rfl, (by (repeat (first | exact EvB.nil | apply EvB.cons rfl (by first | exact (rfl : B8 _ = B8 _) | exact lit8 _ (by decide)))); done), ?_⟩; intro _ _ hM2; clear hM; have hM := hM2; clear hM2) | ((with_reducible refine gL_append_B hM ?_); refine ⟨_, _, _, _, _, _, _, _, _, _, rfl, rfl, (by first | exact (rfl : Value.slice (some ⟨_, 0, none⟩) _ _ = sl (some _) _ _) | exact (rfl : Value.slice none _ _ = sl none _ _) | rfl), (us_of rfl), (el_of rfl), (by first | exact hM.src (by (repeat (first | exact .head _ | apply List.Mem.tail)); done) | exact (hM.bytes0 (by assumption)).src), (fun _ _ => by (repeat (first | exact .here _ _ _ | apply Swap.there)); done), (by first | assumption | exact Len.map (by assumption) _ | rfl | exact Len.map (by rfl) _ | exact Len.of (by simp; done)), (by first | assumption | exact Len.map (by assumption) _ | rfl | exact Len.map (by rfl) _ | exact Len.of (by simp; done)), (by first | assumption | (simp [maxLen]; done) | omega | (simp [maxLen]; omega)), (by first | omega | (simp only [Len] at *; omega) | (simp; omega)), ?_⟩; intro _ _ _ hM2 _ _; clear hM; have hM := hM2; clear hM2) | ((first | (with_reducible refine gL_field ?_) | ((with_reducible refine gG_field ?_ ?_); (exact wanted_of rfl rfl rfl rfl rfl))); refine ⟨_, _, rfl, (by (first | (exact field_one (fb_of rfl) rfl) | (exact field_agg (fa_of rfl) rfl))), ?_⟩))
              have hM3 : Mem [] w0 _ (⟨some ge, 53, wrongC 7 E, 2⟩ :: ⟨some gr, 27, imC Img.im0 (.slice none 0 0), 36⟩ :: []) := hM
              exact hM3.ret_cell_tmp rfl rfl rfl rfl (.tail _ (.head _)) (ag_of rfl) hzC (.inr ⟨7, E, ge, hP, by decide, rfl, hM3.drop2⟩)
            · have hP := hresp.trans (rest_just hbl2 hlong (by rw [hNE]; exact hshort) (by rw [hNE]; exact hmore))
              have hmi : ¬ (E : Int) < (nb : Int) := by omega
              have hnbE : nb = E := by omega
              subst hnbE
              obtain ⟨p5, p6, p8, hpv⟩ : ∃ p5 p6 p8, Img.parse b = (⟨((p5 : UInt8).toNat : Int), ((p6 : UInt8).toNat : Int), ((p8 : Nat) : Int), (b.drop 16).take N, b.drop M⟩, (0, 0)) ∧ p5 = gb b 5 ∧ p6 = gb b 6 ∧ p8 = Img.number (b.drop 8) := ⟨_, _, _, by rw [HMd ()]; exact hP, rfl, rfl, rfl⟩
              obtain ⟨hP2, hp5, hp6, hp8⟩ := hpv
              have hB := hM.bytes0 hv
              obtain ⟨bb, off, rfl, hc5⟩ := hcell _ hB 5 (by omega)
              obtain ⟨bb', off', e1, hc6⟩ := hcell _ hB 6 (by omega)
              cases e1
              rw [← hp5] at hc5
              rw [← hp6] at hc6
              have hs0 := hB.src
              rw [hbl2.eq] at hs0
              have hcd : ∀ w', Bytes w' (.slice (some ⟨bb, off, none⟩) nb cap0) b → w'.cell? ⟨bb, off + 5 * 1, none⟩ = some (B8 p5) ∧ w'.cell? ⟨bb, off + 6 * 1, none⟩ = some (B8 p6) := fun w' hb => by
                obtain ⟨b2, o2, e2, h5⟩ := hcell _ hb 5 (by omega)
                cases e2
                obtain ⟨b2, o2, e2, h6⟩ := hcell _ hb 6 (by omega)
                cases e2
                rw [hp5, hp6]
                exact ⟨h5, h6⟩
              clear hP hcell hp5 hp6 hresp hB hc5 hc6
              replace hM : Mem [] w0 w1 (⟨none, 5, ([] : List UInt8).map B8, 0⟩ :: ⟨some gr, 27, imC Img.im0 (.slice none 0 0), 36⟩ :: []) := hM.addNil 5
              go_wp2_with (first
                | ((with_reducible refine gL_append_B (dst := some 78) hM ?_); refine ⟨_, _, none, 0, 0, 5, [], b, nb, _, rfl, rfl, rfl, (us_of rfl), (el_of rfl), hs0, (fun _ _ => .here _ _ _), rfl, hbl2, (by decide), (by omega), ?_⟩; intro ob1 cap1 wA hM2 h11 h12; rw [Nat.zero_add] at h11 ⊢; rw [List.nil_append] at hM2; obtain ⟨og, rfl⟩ := hM2.some_of (.head _) (n := nb) (Len.of (by rw [List.length_map]; exact hbl2.eq)) (by omega); clear hM hs0; have hM := hM2; clear hM2)
                | go_skip | ((first | (with_reducible refine gL_load ?_) | ((with_reducible refine gG_load ?_ ?_); (exact wanted_of rfl rfl rfl rfl rfl))); refine ⟨_, _, rfl, (by (first | (assumption) | (exact hM.loads_B8 (by (repeat (first | exact .head _ | apply List.Mem.tail)); done) (on_of rfl) (by first | omega | (simp only [Len] at *; omega) | (simp; omega))) | (exact hM.loads_all (by (repeat (first | exact .head _ | apply List.Mem.tail)); done) (ag_of rfl) (by first | assumption | exact Len.map (by assumption) _ | rfl | exact Len.map (by rfl) _ | exact Len.of (by simp; done))) | (exact hM.loads_one (by (repeat (first | exact .head _ | apply List.Mem.tail)); done) (on_of rfl) rfl) | (exact hM.loads_W32 (by (repeat (first | exact .head _ | apply List.Mem.tail)); done) (on_of rfl) (by first | omega | (simp only [Len] at *; omega) | (simp; omega))) | (exact loads_cell (by assumption) (on_of rfl)))), ?_⟩) | ((with_reducible refine gL_store hM ?_); refine ⟨_, _, _, rfl, rfl, (by (first | (exact hM.stores_B8 (by first | exact (rfl : B8 _ = B8 _) | exact lit8 _ (by decide)) (by (repeat (first | exact .here _ _ _ | apply Has.there)); done) (on_of rfl) (by first | omega | (simp only [Len] at *; omega) | (simp; omega))) | (exact hM.stores_all (by (repeat (first | exact .here _ _ _ | apply Has.there)); done) (ag_of rfl) (by first | assumption | exact Len.map (by assumption) _ | rfl | exact Len.map (by rfl) _ | exact Len.of (by simp; done)) (by first | assumption | exact Len.map (by assumption) _ | rfl | exact Len.map (by rfl) _ | exact Len.of (by simp; done)) (by first | exact B8_one | exact W32_one | exact one_of_all rfl)) | (exact hM.stores_W32 rfl (by (repeat (first | exact .here _ _ _ | apply Has.there)); done) (on_of rfl) (by first | omega | (simp only [Len] at *; omega) | (simp; omega))) | (exact hM.stores_one (by (repeat (first | exact .here _ _ _ | apply Has.there)); done) (on_of rfl) (by first | omega | (simp only [Len] at *; omega) | (simp; omega)) rfl rfl))), ?_⟩; intro _ hM2; clear hM; have hM := hM2; clear hM2) | ((with_reducible refine gL_alloc hM ?_); refine ⟨_, _, (zr_of rfl), ?_⟩; intro _ _ hM2; clear hM; have hM := hM2; clear hM2) | ((with_reducible refine gL_box hM ?_); refine ⟨_, _, _, rfl, rfl, (by first | assumption | exact Len.map (by assumption) _ | rfl | exact Len.map (by rfl) _ | exact Len.of (by simp; done)), ?_⟩; intro _ _ hM2; clear hM; have hM := hM2; clear hM2) | ((with_reducible refine gL_build0 ?_); refine ⟨_, _, _, _, _, _, (zr_of rfl), (ua_of rfl), (ag_of rfl), (el_of rfl), ?_⟩) | ((with_reducible refine gL_buildBytes hM ?_); refine ⟨_, _, (us_of rfl), (el_of rfl), (by decide), (by decide), rfl, (by (repeat (first | exact EvB.nil | apply EvB.cons rfl (by first | exact (rfl : B8 _ = B8 _) | exact lit8 _ (by decide)))); done), ?_⟩; intro _ _ hM2; clear hM; have hM := hM2; clear hM2) | ((with_reducible refine gL_append_B hM ?_); refine ⟨_, _, _, _, _, _, _, _, _, _, rfl, rfl, (by first | exact (rfl : Value.slice (some ⟨_, 0, none⟩) _ _ = sl (some _) _ _) | exact (rfl : Value.slice none _ _ = sl none _ _) | rfl), (us_of rfl), (el_of rfl), (by first | exact hM.src (by (repeat (first | exact .head _ | apply List.Mem.tail)); done) | exact (hM.bytes0 (by assumption)).src), (fun _ _ => by (repeat (first | exact .here _ _ _ | apply Swap.there)); done), (by first | assumption | exact Len.map (by assumption) _ | rfl | exact Len.map (by rfl) _ | exact Len.of (by simp; done)), (by first | assumption | exact Len.map (by assumption) _ | rfl | exact Len.map (by rfl) _ | exact Len.of (by simp; done)), (by first | assumption | (simp [maxLen]; done) | omega | (simp [maxLen]; omega)), (by first | omega | (simp only [Len] at *; omega) | (simp; omega)), ?_⟩; intro _ _ _ hM2 _ _; clear hM; have hM := hM2; clear hM2) | ((first | (with_reducible refine gL_field ?_) | ((with_reducible refine gG_field ?_ ?_); (exact wanted_of rfl rfl rfl rfl rfl))); refine ⟨_, _, rfl, (by (first | (exact field_one (fb_of rfl) rfl) | (exact field_agg (fa_of rfl) rfl))), ?_⟩))
              have hB := hM.bytes0 hv
              obtain ⟨ao8, hS8, hB8, -⟩ := bytes_from (P := Tryd.prog) hB (t := 23) (us_of rfl) (by exact elOne rfl) (k := 8) (by omega)
              have hnum8 : ∀ w', Adds wA w' → Calls Tryd.prog 29 #[.slice ao8 (nb - 8) (cap0 - 8)] w' fun e w'' => e = .returned (.int .i64 (p8 : Int)) ∧ Below w'.heap.size w' w'' := fun w' hb => by rw [hp8]; exact image_number w' _ _ _ _ (hB8.adds hb) (by omega)
              have hS16 := slice_three (P := Tryd.prog) (t := 23) (us_of rfl) (by exact elOne rfl) (n := nb) (cap := cap1) (lo := 16) (hi := M) (g := og) (off := 0) (by rw [HMd ()]; omega) (by rw [HMd ()]; omega)
              obtain ⟨o16, ho16⟩ : ∃ o, (if M = 16 then 0 else 0 + 16) = o := ⟨_, rfl⟩
              rw [ho16, show M - 16 = N from by rw [HMd ()]; omega] at hS16
              have ho2 : 0 < N → o16 = 16 := fun h => by rw [← ho16, if_neg (by rw [HMd ()]; omega)]
              have hcc : ∀ w', Adds wA w' → w'.cell? ⟨bb, off + 5 * 1, none⟩ = some (B8 p5) ∧ w'.cell? ⟨bb, off + 6 * 1, none⟩ = some (B8 p6) := fun w' hb => hcd _ ((hM.adds hb).bytes0 hv)
              clear hp8 hB8 ho16
              try simp only [Act.put, List.setIfInBounds_toArray, List.set_cons_succ, List.set_cons_zero]
              refine wp_region_tail 19 (by decide) (fun c vals => ⟨#[(Value.slice (some ⟨bb, off, none⟩) nb cap0 : Value), c 1, c 2, c 3, c 4, (Value.int .i64 (N : Int) : Value), c 6, (Value.slice (some ⟨og, 0, none⟩) nb cap1 : Value), vals 18, c 9, c 10, c 11, c 12, c 13, c 14, c 15, c 16, c 17, c 18, c 19, c 20, c 21, c 22, c 23, c 24, c 25, c 26, c 27, c 28, c 29, c 30, c 31, c 32, c 33, c 34, c 35, c 36, c 37, c 38, c 39, c 40, c 41, c 42, c 43, c 44, c 45, c 46, c 47, c 48, c 49, c 50, c 51, c 52, c 53, c 54, c 55, c 56, c 57, c 58, c 59, c 60, c 61, c 62, c 63, c 64, c 65, c 66, c 67, c 68, c 69, c 70, c 71, c 72, c 73, c 74, c 75, c 76, c 77, c 78, vals 0, vals 1, vals 2, vals 3, vals 4, vals 5, vals 6, vals 7, vals 8, vals 9, vals 10, vals 11, vals 12, vals 13, vals 14, vals 15, vals 16, vals 17, c 97, c 98, c 99, c 100, c 101, c 102, c 103, c 104], []⟩) (fun t => [undef, _, _, _, _, undef, _, undef, undef, _, _, _, _, _, _, _, _, _, _, _, _, _, _, _, _, _, _, _, _, _, _, _, _, _, _, _, _, _, _, _, _, _, _, _, _, _, _, _, _, _, _, _, _, _, _, _, _, _, _, _, _, _, _, _, _, _, _, _, _, _, _, _, _, _, _, _, _, _, _, undef, undef, undef, undef, undef, undef, undef, undef, undef, undef, undef, undef, undef, undef, undef, undef, undef, undef, _, _, _, _, _, _, _, _].getD t undef) (fun i => [_, _, _, _, _, _, _, _, _, _, _, _, _, _, _, _, _, _, _].getD i undef) (by kernel_rfl)
                [[], [0], [0, 1], [0, 1, 2], [], [4], [4, 5], [4, 5, 6], [], [8], [8, 9], [], [], [12], [], [14], [11, 12, 13, 14, 15], [0, 1, 2, 3, 4, 5, 6, 7, 8, 9, 10, 11, 12, 13, 14, 15, 16], [], [0, 1, 2, 3, 4, 5, 6, 7, 8, 9, 10, 11, 12, 13, 14, 15, 16, 17, 18]] (by kernel_rfl) (by kernel_rfl) (fun _ => True) trivial
                [fun x _ => x = (Value.slice (some ⟨bb, off, none⟩) nb cap0 : Value),
                 fun x _ => x = (Value.pointer (some ⟨bb, off + 5 * 1, none⟩) : Value),
                 fun x _ => x = (B8 p5 : Value),
                 fun x _ => x = (Value.int .i64 (p5.toNat : Int) : Value),
                 fun x _ => x = (Value.slice (some ⟨bb, off, none⟩) nb cap0 : Value),
                 fun x _ => x = (Value.pointer (some ⟨bb, off + 6 * 1, none⟩) : Value),
                 fun x _ => x = (B8 p6 : Value),
                 fun x _ => x = (Value.int .i64 (p6.toNat : Int) : Value),
                 fun x _ => x = (Value.slice (some ⟨bb, off, none⟩) nb cap0 : Value),
                 fun x _ => x = (Value.slice ao8 (nb - 8) (cap0 - 8) : Value),
                 fun x _ => x = (Value.int .i64 (p8 : Int) : Value),
                 fun x _ => x = (Value.slice (some ⟨og, 0, none⟩) nb cap1 : Value),
                 fun x _ => x = (Value.int .i64 (N : Int) : Value),
                 fun x _ => x = (Value.int .i64 (M : Int) : Value),
                 fun x _ => x = (Value.int .i64 (N : Int) : Value),
                 fun x _ => x = (Value.int .i64 (M : Int) : Value),
                 fun x _ => x = (Value.slice (some ⟨og, o16, none⟩) N N : Value),
                 fun x _ => x = (Value.agg (imC ⟨(p5.toNat : Int), (p6.toNat : Int), (p8 : Int), [], List.replicate 32 0⟩ (Value.slice (some ⟨og, o16, none⟩) N N)).toArray : Value),
                 fun (xx : Value) (ww : World) => ∃ g8, xx = .pointer (some ⟨g8, 0, none⟩) ∧ Mem [] wA ww [⟨some g8, 27, imC Img.im0 (.slice none 0 0), 36⟩]]
                ⟨fun _ _ _ h _ => h, fun _ _ _ h _ => h, fun _ _ _ h _ => h, fun _ _ _ h _ => h, fun _ _ _ h _ => h, fun _ _ _ h _ => h, fun _ _ _ h _ => h, fun _ _ _ h _ => h, fun _ _ _ h _ => h, fun _ _ _ h _ => h, fun _ _ _ h _ => h, fun _ _ _ h _ => h, fun _ _ _ h _ => h, fun _ _ _ h _ => h, fun _ _ _ h _ => h, fun _ _ _ h _ => h, fun _ _ _ h _ => h, fun _ _ _ h _ => h, fun _ _ _ h hb => (let ⟨g8, h1, h2⟩ := h; ⟨g8, h1, h2.adds hb⟩), trivial⟩ []
                ⟨?_, ?_, ?_, ?_, ?_, ?_, ?_, ?_, ?_, ?_, ?_, ?_, ?_, ?_, ?_, ?_, ?_, ?_, ?_, trivial⟩ ?_
              · refine showA_op 0 (by intro _ _ _; kernel_rfl) rfl rfl (fun c vals w hC hD => ?_)
                clear hD
                refine makes1 (x := .tmp 0) (X := Value.slice (some ⟨bb, off, none⟩) nb cap0) (by kernel_rfl : _ = (Value.slice (some ⟨bb, off, none⟩) nb cap0 : Value)) (fun ρ rc rf q0 => ?_)
                exact makes_move (.inl rfl) q0 ⟨Adds.refl _, rfl⟩
              · refine showA_op 1 (by intro _ _ _; kernel_rfl) rfl rfl (fun c vals w hC hD => ?_)
                have h0 : vals 0 = .slice (some ⟨bb, off, none⟩) nb cap0 := hD 0 rfl
                clear hD
                refine makes1 (x := .tmp 79) (X := Value.slice (some ⟨bb, off, none⟩) nb cap0) ((by kernel_rfl : _ = vals 0).trans h0) (fun ρ rc rf q79 => ?_)
                clear h0
                exact makes_index (us_of rfl) (el_of rfl) (j := 5) (by omega) rfl q79 (rc _) ⟨Adds.refl _, rfl⟩
              · refine showA_op 2 (by intro _ _ _; kernel_rfl) rfl rfl (fun c vals w hC hD => ?_)
                have h1 : vals 1 = .pointer (some ⟨bb, off + 5 * 1, none⟩) := hD 1 rfl
                clear hD
                refine makes1 (x := .tmp 80) (X := Value.pointer (some ⟨bb, off + 5 * 1, none⟩)) ((by kernel_rfl : _ = vals 1).trans h1) (fun ρ rc rf q80 => ?_)
                clear h1
                exact makes_load (loads_cell (hcc _ hC).1 (on_of rfl)) rfl q80 ⟨Adds.refl _, rfl⟩
              · refine showA_op 3 (by intro _ _ _; kernel_rfl) rfl rfl (fun c vals w hC hD => ?_)
                have h2 : vals 2 = B8 p5 := hD 2 rfl
                clear hD
                refine makes1 (x := .tmp 81) (X := B8 p5) ((by kernel_rfl : _ = vals 2).trans h2) (fun ρ rc rf q81 => ?_)
                clear h2
                (refine makes_value (v := .int .i64 (p5.toNat : Int)) ?_ ⟨Adds.refl _, rfl⟩; go_simp)
              · refine showA_op 4 (by intro _ _ _; kernel_rfl) rfl rfl (fun c vals w hC hD => ?_)
                clear hD
                refine makes1 (x := .tmp 0) (X := Value.slice (some ⟨bb, off, none⟩) nb cap0) (by kernel_rfl : _ = (Value.slice (some ⟨bb, off, none⟩) nb cap0 : Value)) (fun ρ rc rf q0 => ?_)
                exact makes_move (.inl rfl) q0 ⟨Adds.refl _, rfl⟩
              · refine showA_op 5 (by intro _ _ _; kernel_rfl) rfl rfl (fun c vals w hC hD => ?_)
                have h4 : vals 4 = .slice (some ⟨bb, off, none⟩) nb cap0 := hD 4 rfl
                clear hD
                refine makes1 (x := .tmp 83) (X := Value.slice (some ⟨bb, off, none⟩) nb cap0) ((by kernel_rfl : _ = vals 4).trans h4) (fun ρ rc rf q83 => ?_)
                clear h4
                exact makes_index (us_of rfl) (el_of rfl) (j := 6) (by omega) rfl q83 (rc _) ⟨Adds.refl _, rfl⟩
              · refine showA_op 6 (by intro _ _ _; kernel_rfl) rfl rfl (fun c vals w hC hD => ?_)
                have h5 : vals 5 = .pointer (some ⟨bb, off + 6 * 1, none⟩) := hD 5 rfl
                clear hD
                refine makes1 (x := .tmp 84) (X := Value.pointer (some ⟨bb, off + 6 * 1, none⟩)) ((by kernel_rfl : _ = vals 5).trans h5) (fun ρ rc rf q84 => ?_)
                clear h5
                exact makes_load (loads_cell (hcc _ hC).2 (on_of rfl)) rfl q84 ⟨Adds.refl _, rfl⟩
              · refine showA_op 7 (by intro _ _ _; kernel_rfl) rfl rfl (fun c vals w hC hD => ?_)
                have h6 : vals 6 = B8 p6 := hD 6 rfl
                clear hD
                refine makes1 (x := .tmp 85) (X := B8 p6) ((by kernel_rfl : _ = vals 6).trans h6) (fun ρ rc rf q85 => ?_)
                clear h6
                (refine makes_value (v := .int .i64 (p6.toNat : Int)) ?_ ⟨Adds.refl _, rfl⟩; go_simp)
              · refine showA_op 8 (by intro _ _ _; kernel_rfl) rfl rfl (fun c vals w hC hD => ?_)
                clear hD
                refine makes1 (x := .tmp 0) (X := Value.slice (some ⟨bb, off, none⟩) nb cap0) (by kernel_rfl : _ = (Value.slice (some ⟨bb, off, none⟩) nb cap0 : Value)) (fun ρ rc rf q0 => ?_)
                exact makes_move (.inl rfl) q0 ⟨Adds.refl _, rfl⟩
              · refine showA_op 9 (by intro _ _ _; kernel_rfl) rfl rfl (fun c vals w hC hD => ?_)
                have h8 : vals 8 = .slice (some ⟨bb, off, none⟩) nb cap0 := hD 8 rfl
                clear hD
                refine makes1 (x := .tmp 87) (X := Value.slice (some ⟨bb, off, none⟩) nb cap0) ((by kernel_rfl : _ = vals 8).trans h8) (fun ρ rc rf q87 => ?_)
                clear h8
                exact makes_slice hS8 rfl q87 (congrArg some (rc _)) rfl rfl ⟨Adds.refl _, rfl⟩
              · refine showA_op 10 (by intro _ _ _; kernel_rfl) rfl rfl (fun c vals w hC hD => ?_)
                have h9 : vals 9 = .slice ao8 (nb - 8) (cap0 - 8) := hD 9 rfl
                clear hD
                refine makes1 (x := .tmp 88) (X := Value.slice ao8 (nb - 8) (cap0 - 8)) ((by kernel_rfl : _ = vals 9).trans h9) (fun ρ rc rf q88 => ?_)
                clear h9
                refine makes_call (hnum8 _ hC) ?_ (by rintro e w' ⟨rfl, hb⟩; exact ⟨_, rfl, hb, rfl⟩)
                go_simp
              · refine showA_op 11 (by intro _ _ _; kernel_rfl) rfl rfl (fun c vals w hC hD => ?_)
                clear hD
                refine makes1 (x := .tmp 7) (X := Value.slice (some ⟨og, 0, none⟩) nb cap1) (by kernel_rfl : _ = (Value.slice (some ⟨og, 0, none⟩) nb cap1 : Value)) (fun ρ rc rf q7 => ?_)
                exact makes_move (.inl rfl) q7 ⟨Adds.refl _, rfl⟩
              · refine showA_op 12 (by intro _ _ _; kernel_rfl) rfl rfl (fun c vals w hC hD => ?_)
                clear hD
                refine makes1 (x := .tmp 5) (X := Value.int .i64 (N : Int)) (by kernel_rfl : _ = (Value.int .i64 (N : Int) : Value)) (fun ρ rc rf q5 => ?_)
                exact makes_move (.inl rfl) q5 ⟨Adds.refl _, rfl⟩
              · refine showA_op 13 (by intro _ _ _; kernel_rfl) rfl rfl (fun c vals w hC hD => ?_)
                have h12 : vals 12 = .int .i64 (N : Int) := hD 12 rfl
                clear hD
                refine makes1 (x := .tmp 91) (X := Value.int .i64 (N : Int)) ((by kernel_rfl : _ = vals 12).trans h12) (fun ρ rc rf q91 => ?_)
                clear h12
                (refine makes_value (v := .int .i64 (M : Int)) ?_ ⟨Adds.refl _, rfl⟩; go_simp; rw [wrapP_i64]; omega)
              · refine showA_op 14 (by intro _ _ _; kernel_rfl) rfl rfl (fun c vals w hC hD => ?_)
                clear hD
                refine makes1 (x := .tmp 5) (X := Value.int .i64 (N : Int)) (by kernel_rfl : _ = (Value.int .i64 (N : Int) : Value)) (fun ρ rc rf q5 => ?_)
                exact makes_move (.inl rfl) q5 ⟨Adds.refl _, rfl⟩
              · refine showA_op 15 (by intro _ _ _; kernel_rfl) rfl rfl (fun c vals w hC hD => ?_)
                have h14 : vals 14 = .int .i64 (N : Int) := hD 14 rfl
                clear hD
                refine makes1 (x := .tmp 93) (X := Value.int .i64 (N : Int)) ((by kernel_rfl : _ = vals 14).trans h14) (fun ρ rc rf q93 => ?_)
                clear h14
                (refine makes_value (v := .int .i64 (M : Int)) ?_ ⟨Adds.refl _, rfl⟩; go_simp; rw [wrapP_i64]; omega)
              · refine showA_op 16 (by intro _ _ _; kernel_rfl) rfl rfl (fun c vals w hC hD => ?_)
                have h11 : vals 11 = .slice (some ⟨og, 0, none⟩) nb cap1 := hD 11 rfl
                have h13 : vals 13 = .int .i64 (M : Int) := hD 13 rfl
                have h15 : vals 15 = .int .i64 (M : Int) := hD 15 rfl
                clear hD
                refine makes3 (x := .tmp 90) (X := Value.slice (some ⟨og, 0, none⟩) nb cap1) (y := .tmp 92) (Y := Value.int .i64 (M : Int)) (z := .tmp 94) (Z := Value.int .i64 (M : Int)) ((by kernel_rfl : _ = vals 11).trans h11) ((by kernel_rfl : _ = vals 13).trans h13) ((by kernel_rfl : _ = vals 15).trans h15) (fun ρ rc rf q90 q92 q94 => ?_)
                clear h11 h13 h15
                exact makes_slice hS16 rfl q90 (congrArg some (rc _)) (congrArg some q92) (congrArg some q94) ⟨Adds.refl _, rfl⟩
              · refine showA_op 17 (by intro _ _ _; kernel_rfl) rfl rfl (fun c vals w hC hD => ?_)
                have h3 : vals 3 = .int .i64 (p5.toNat : Int) := hD 3 rfl
                have h7 : vals 7 = .int .i64 (p6.toNat : Int) := hD 7 rfl
                have h10 : vals 10 = .int .i64 (p8 : Int) := hD 10 rfl
                have h16 : vals 16 = .slice (some ⟨og, o16, none⟩) N N := hD 16 rfl
                clear hD
                refine makes4 (x := .tmp 82) (X := Value.int .i64 (p5.toNat : Int)) (y := .tmp 86) (Y := Value.int .i64 (p6.toNat : Int)) (z := .tmp 89) (Z := Value.int .i64 (p8 : Int)) (t := .tmp 95) (T := Value.slice (some ⟨og, o16, none⟩) N N) ((by kernel_rfl : _ = vals 3).trans h3) ((by kernel_rfl : _ = vals 7).trans h7) ((by kernel_rfl : _ = vals 10).trans h10) ((by kernel_rfl : _ = vals 16).trans h16) (fun ρ rc rf q82 q86 q89 q95 => ?_)
                clear h3 h7 h10 h16
                exact makes_build1 (fun w => hbld w _ _ _ _ _ _) rfl (by simp only [List.map_cons, List.map_nil]; rw [q82, q86, q89, q95]) ⟨Adds.refl _, rfl⟩
              · refine showA_op 18 (by intro _ _ _; kernel_rfl) rfl rfl (fun c vals w hC hD => ?_)
                clear hD
                refine makes0 (fun ρ rc rf => ?_)
                exact makes_alloc hz rfl (fun g w' h1 => ⟨h1.done, g, rfl, ((Mem.start _).adds hC).join h1 (by simp)⟩)
              intro vals w' hC hΦ hne
              have h17 : vals 17 = .agg (imC ⟨(p5.toNat : Int), (p6.toNat : Int), (p8 : Int), [], List.replicate 32 0⟩ (.slice (some ⟨og, o16, none⟩) N N)).toArray := hΦ 17 (by decide)
              have h18 : (fun (xx : Value) (ww : World) => ∃ g8, xx = .pointer (some ⟨g8, 0, none⟩) ∧ Mem [] wA ww [⟨some g8, 27, imC Img.im0 (.slice none 0 0), 36⟩]) (vals 18) w' := hΦ 18 (by decide)
              clear hΦ hne
              simp only [List.getD_eq_getElem?_getD, List.getElem?_cons_zero, List.getElem?_cons_succ, Option.getD_some, List.drop_succ_cons, List.drop_zero]
              simp only [h17]
              clear h17
              try simp only [tuple_undef]
              obtain ⟨g8, e8, m8⟩ := h18
              replace hM := hM.addMem m8
              simp only [List.cons_append, List.nil_append] at hM
              simp only [e8]
              clear e8 m8 hC hcc hS8 hnum8 hB hcd hS16 hbld hb0
              have hC1l := imC_len (x := ⟨(p5.toNat : Int), (p6.toNat : Int), (p8 : Int), [], List.replicate 32 0⟩) (Len.rep 32 0) (.slice (some ⟨og, o16, none⟩) N N)
              have hC1o : ∀ v ∈ imC ⟨(p5.toNat : Int), (p6.toNat : Int), (p8 : Int), [], List.replicate 32 0⟩ (.slice (some ⟨og, o16, none⟩) N N), v.oneCell' = true := one_of_all rfl
              have hTl : Len (b.drop M) 32 := Len.of (by rw [List.length_drop, hbl2.eq]; omega)
              have hset := tag_set ⟨(p5.toNat : Int), (p6.toNat : Int), (p8 : Int), [], List.replicate 32 0⟩ (.slice (some ⟨og, o16, none⟩) N N) (b.drop M) (Len.rep 32 0) hTl
              have hC2l := imC_len (x := ⟨(p5.toNat : Int), (p6.toNat : Int), (p8 : Int), (b.drop 16).take N, b.drop M⟩) hTl (.slice (some ⟨og, o16, none⟩) N N)
              obtain ⟨C1, hC1⟩ : ∃ C1, C1 = imC ⟨(p5.toNat : Int), (p6.toNat : Int), (p8 : Int), [], List.replicate 32 0⟩ (.slice (some ⟨og, o16, none⟩) N N) := ⟨_, rfl⟩
              obtain ⟨C2, hC2⟩ : ∃ C2, C2 = imC ⟨(p5.toNat : Int), (p6.toNat : Int), (p8 : Int), (b.drop 16).take N, b.drop M⟩ (.slice (some ⟨og, o16, none⟩) N N) := ⟨_, rfl⟩
              rw [← hC1] at hC1l hC1o hset ⊢
              rw [← hC2] at hC2l
              replace hset : C1.take 4 ++ (b.drop M).map B8 ++ C1.drop (4 + 32) = C2 := hset.trans hC2.symm
              have HC2 : ∀ _ : Unit, C2 = imC ⟨(p5.toNat : Int), (p6.toNat : Int), (p8 : Int), (b.drop 16).take N, b.drop M⟩ (.slice (some ⟨og, o16, none⟩) N N) := fun _ => hC2
              have hC2o : ∀ v ∈ C2, v.oneCell' = true := by
                rw [hC2]
                intro v hv
                rcases List.mem_append.1 hv with h | h
                · exact one_of_all (C := ([.int .i64 _, .int .i64 _, .int .i64 _, .slice _ _ _] : List Value)) rfl v h
                · obtain ⟨c, _, rfl⟩ := List.mem_map.1 h
                  rfl
              clear hC1 hC2
              have HSET : ∀ _ : Unit, C1.take 4 ++ ((b.drop M).take 32).map B8 ++ C1.drop (4 + ((b.drop M).take 32).length) = C2 := fun _ => by
                have ht : (b.drop M).take 32 = b.drop M := List.take_of_length_le (by rw [hTl.eq]; exact Nat.le_refl _)
                rw [ht, hTl.eq]
                exact hset
              clear hset
              go_wp2_with (first
                | ((with_reducible refine gL_store hM ?_); refine ⟨_, _, _, rfl, rfl, hM.stores_all (.here _ _ _) (ag_of rfl) hC1l hzC hC1o, ?_⟩; intro wB hM2; clear hM; have hM := hM2; clear hM2)
                | go_skip)
              obtain ⟨aoT, hST, hBT, -⟩ := bytes_from (P := Tryd.prog) (hM.whole (.tail _ (.head _)) hbl2 (by simpa [maxLen] using h12)) (t := 23) (us_of rfl) (by exact elOne rfl) (k := M) (by omega)
              rw [show nb - M = 32 from by omega] at hST hBT
              try simp only [Act.put]
              refine wp_region_tail 6 (by decide) (fun c vals => ⟨#[c 0, c 1, c 2, c 3, c 4, (Value.int .i64 (N : Int) : Value), c 6, (Value.slice (some ⟨og, 0, none⟩) nb cap1 : Value), (Value.pointer (some ⟨g8, 0, none⟩) : Value), c 9, c 10, c 11, c 12, c 13, c 14, c 15, c 16, c 17, c 18, c 19, c 20, c 21, c 22, c 23, c 24, c 25, c 26, c 27, c 28, c 29, c 30, c 31, c 32, c 33, c 34, c 35, c 36, c 37, c 38, c 39, c 40, c 41, c 42, c 43, c 44, c 45, c 46, c 47, c 48, c 49, c 50, c 51, c 52, c 53, c 54, c 55, c 56, c 57, c 58, c 59, c 60, c 61, c 62, c 63, c 64, c 65, c 66, c 67, c 68, c 69, c 70, c 71, c 72, c 73, c 74, c 75, c 76, c 77, c 78, c 79, c 80, c 81, c 82, c 83, c 84, c 85, c 86, c 87, c 88, c 89, c 90, c 91, c 92, c 93, c 94, c 95, c 96, vals 0, vals 1, vals 2, vals 3, vals 4, vals 5, c 103, c 104], []⟩) (fun t => [_, _, _, _, _, undef, _, undef, undef, _, _, _, _, _, _, _, _, _, _, _, _, _, _, _, _, _, _, _, _, _, _, _, _, _, _, _, _, _, _, _, _, _, _, _, _, _, _, _, _, _, _, _, _, _, _, _, _, _, _, _, _, _, _, _, _, _, _, _, _, _, _, _, _, _, _, _, _, _, _, _, _, _, _, _, _, _, _, _, _, _, _, _, _, _, _, _, _, undef, undef, undef, undef, undef, undef, _, _].getD t undef) (fun i => [_, _, _, _, _, _].getD i undef) (by kernel_rfl)
                [[], [0], [], [], [3], [2, 3, 4], [0, 1, 2, 3, 4, 5]] (by kernel_rfl) (by kernel_rfl) (fun _ => True) trivial
                [fun x _ => x = (Value.pointer (some ⟨g8, 4, none⟩) : Value),
                 fun x _ => x = (Value.slice (some ⟨g8, 4, none⟩) 32 32 : Value),
                 fun x _ => x = (Value.slice (some ⟨og, 0, none⟩) nb cap1 : Value),
                 fun x _ => x = (Value.int .i64 (N : Int) : Value),
                 fun x _ => x = (Value.int .i64 (M : Int) : Value),
                 fun x _ => x = (Value.slice aoT 32 (cap1 - M) : Value)]
                ⟨fun _ _ _ h _ => h, fun _ _ _ h _ => h, fun _ _ _ h _ => h, fun _ _ _ h _ => h, fun _ _ _ h _ => h, fun _ _ _ h _ => h, trivial⟩ []
                ⟨?_, ?_, ?_, ?_, ?_, ?_, trivial⟩ ?_
              · refine showA_op 0 (by intro _ _ _; kernel_rfl) rfl rfl (fun c vals w hC hD => ?_)
                clear hD
                refine makes1 (x := .tmp 8) (X := Value.pointer (some ⟨g8, 0, none⟩)) (by kernel_rfl : _ = (Value.pointer (some ⟨g8, 0, none⟩) : Value)) (fun ρ rc rf q8 => ?_)
                (refine makes_value (v := .pointer (some ⟨g8, 4, none⟩)) ?_ ⟨Adds.refl _, rfl⟩; go_simp)
              · refine showA_op 1 (by intro _ _ _; kernel_rfl) rfl rfl (fun c vals w hC hD => ?_)
                have h0 : vals 0 = .pointer (some ⟨g8, 4, none⟩) := hD 0 rfl
                clear hD
                refine makes1 (x := .tmp 97) (X := Value.pointer (some ⟨g8, 4, none⟩)) ((by kernel_rfl : _ = vals 0).trans h0) (fun ρ rc rf q97 => ?_)
                clear h0
                exact makes_slice (slice_arr_all (t := 25) (ua_of rfl) (by exact elOne rfl)) rfl q97 rfl rfl rfl ⟨Adds.refl _, rfl⟩
              · refine showA_op 2 (by intro _ _ _; kernel_rfl) rfl rfl (fun c vals w hC hD => ?_)
                clear hD
                refine makes1 (x := .tmp 7) (X := Value.slice (some ⟨og, 0, none⟩) nb cap1) (by kernel_rfl : _ = (Value.slice (some ⟨og, 0, none⟩) nb cap1 : Value)) (fun ρ rc rf q7 => ?_)
                exact makes_move (.inl rfl) q7 ⟨Adds.refl _, rfl⟩
              · refine showA_op 3 (by intro _ _ _; kernel_rfl) rfl rfl (fun c vals w hC hD => ?_)
                clear hD
                refine makes1 (x := .tmp 5) (X := Value.int .i64 (N : Int)) (by kernel_rfl : _ = (Value.int .i64 (N : Int) : Value)) (fun ρ rc rf q5 => ?_)
                exact makes_move (.inl rfl) q5 ⟨Adds.refl _, rfl⟩
              · refine showA_op 4 (by intro _ _ _; kernel_rfl) rfl rfl (fun c vals w hC hD => ?_)
                have h3 : vals 3 = .int .i64 (N : Int) := hD 3 rfl
                clear hD
                refine makes1 (x := .tmp 100) (X := Value.int .i64 (N : Int)) ((by kernel_rfl : _ = vals 3).trans h3) (fun ρ rc rf q100 => ?_)
                clear h3
                (refine makes_value (v := .int .i64 (M : Int)) ?_ ⟨Adds.refl _, rfl⟩; go_simp; rw [wrapP_i64]; omega)
              · refine showA_op 5 (by intro _ _ _; kernel_rfl) rfl rfl (fun c vals w hC hD => ?_)
                have h2 : vals 2 = .slice (some ⟨og, 0, none⟩) nb cap1 := hD 2 rfl
                have h4 : vals 4 = .int .i64 (M : Int) := hD 4 rfl
                clear hD
                refine makes2 (x := .tmp 99) (X := Value.slice (some ⟨og, 0, none⟩) nb cap1) (y := .tmp 101) (Y := Value.int .i64 (M : Int)) ((by kernel_rfl : _ = vals 2).trans h2) ((by kernel_rfl : _ = vals 4).trans h4) (fun ρ rc rf q99 q101 => ?_)
                clear h2 h4
                exact makes_slice hST rfl q99 (congrArg some q101) rfl rfl ⟨Adds.refl _, rfl⟩
              intro vals w' hC hΦ hne
              have h1 : vals 1 = .slice (some ⟨g8, 4, none⟩) 32 32 := hΦ 1 (by decide)
              have h5 : vals 5 = .slice aoT 32 (cap1 - M) := hΦ 5 (by decide)
              clear hΦ hne
              simp only [List.getD_eq_getElem?_getD, List.getElem?_cons_zero, List.getElem?_cons_succ, Option.getD_some, List.drop_succ_cons, List.drop_zero]
              simp only [h1, h5]
              clear h1 h5
              try simp only [tuple_undef]
              replace hM := hM.adds hC
              replace hBT := hBT.adds hC
              clear hC hST
              go_wp2_with (first
                | ((with_reducible refine gL_copy_B hM ?_); refine ⟨_, _, _, _, _, _, C1, _, _, _, b.drop M, (us_of rfl), (by exact elOne rfl), rfl, rfl, hBT, (by rw [hC1l.eq]; exact Nat.le_refl _), .here _ _ _, ?_⟩; rw [HSET ()]; intro _ hM2; clear hM; have hM := hM2; clear hM2)
                | ((with_reducible refine gL_load (dst := some 104) ?_); refine ⟨_, _, rfl, hM.loads_all (.head _) (ag_of rfl) hC2l, ?_⟩)
                | ((with_reducible refine gL_store hM ?_); refine ⟨_, _, _, rfl, rfl, hM.stores_all (.there _ (.there _ (.here _ _ _))) (ag_of rfl) hC2l hzC hC2o, ?_⟩; intro _ hM2; clear hM; have hM := hM2; clear hM2))
              exact hM.ret_cell_tmp rfl rfl rfl rfl (.tail _ (.tail _ (.head _))) (ag_of rfl) hC2l (.inl ⟨_, og, o16, cap1, N, hP2, Len.of (by rw [List.length_take, List.length_drop, hbl2.eq]; omega), hTl, by rw [HC2 ()]; rfl, ho2, by omega, h12, by omega, rfl, hM.drop.drop2⟩)
end Go.Proofs.YtejmbkljnhnklaaDoor
namespace Go.PK
open Go.RowKit
section
variable {P : Program} {a : Act} {w : World} {G : List Nat} {w0 : World} {L : List Blk}
theorem Mem.ret_cells (hM : Mem G w0 w L) {fn : Func} {R : Ending → World → Prop} {p q : Tmp} {ty tz : TypeId} (hres : fn.results = #[.cell p ty, .cell q tz]) {g1 g2 : Nat} {t1 t2 : TypeId} {C1 C2 : List Value} {N1 N2 : Nat}
    (hp : a.tmps.getD p undef = .pointer (some ⟨g1, 0, none⟩)) (hq : a.tmps.getD q undef = .pointer (some ⟨g2, 0, none⟩)) (hd : a.defers = []) (hb1 : ⟨some g1, t1, C1, N1⟩ ∈ L) (hb2 : ⟨some g2, t2, C2, N2⟩ ∈ L)
    (ht1 : aggB P ty N1 = true) (ht2 : aggB P tz N2 = true) (hn1 : Len C1 N1) (hn2 : Len C2 N2) (h : R (.returned (.tuple #[.agg C1.toArray, .agg C2.toArray])) w) : bodyPost P fn R .ret a w := by
  have hp' : a.tmps[p]?.getD undef = .pointer (some ⟨g1, 0, none⟩) := by simpa using hp
  have hq' : a.tmps[q]?.getD undef = .pointer (some ⟨g2, 0, none⟩) := by simpa using hq
  have h1 := hM.loads_all (P := P) hb1 ht1 hn1
  have h2 := hM.loads_all (P := P) hb2 ht2 hn2
  unfold Loads at h1 h2
  exact ⟨hd, .tuple #[.agg C1.toArray, .agg C2.toArray], by simp [results, hres, hp', hq', asAddr, h1, h2], h⟩
theorem bytes_cut {ao : Option Addr} {n cap : Nat} {l : List UInt8} (h : Bytes w (.slice ao n cap) l) {t e : TypeId} (hu : P.underlying t = some (.slice e)) (he : (P.info? e).map (·.size) = some 1) {lo hi : Nat} (h1 : lo ≤ hi) (h2 : hi ≤ n) :
    ∃ ao', Sliced P t (.slice ao n cap) (some (.int .i64 (lo : Int))) (some (.int .i64 (hi : Int))) none (.slice ao' (hi - lo) (cap - lo)) ∧ Bytes w (.slice ao' (hi - lo) (cap - lo)) ((l.drop lo).take (hi - lo)) := by
  obtain ⟨e1, e2, e3⟩ := h.form
  have hsub := h.sub (lo := lo) (hi := hi) (mx := cap) h1 (by omega) (by omega) (Nat.le_refl _)
  cases hq : P.info? e with
  | none => simp [hq] at he
  | some i =>
    have hs : i.size = 1 := by simpa [hq] using he
    refine ⟨_, fun w => ?_, hsub⟩
    have hb : (Instr.sliceBounds true n cap (some (.int .i64 (lo : Int))) (some (.int .i64 (hi : Int))) none).run P w = .ok (lo, hi, cap) w := by
      have h3 : (hi : Int) ≤ cap := by omega
      simp [Instr.sliceBounds, run_sliceBound, h1, h3]
    simp only [Instr.sliceAt, Instr.slice, Sem.run_bind, run_underlying hu, Sem.run_pure, Result.andThen_ok, hb, sizeOf, typeInfo]
    simp [hq, hs]
end
end Go.PK
namespace Go.Proofs.YtejmbkljnhnklaaDoor
open Go.RowKit Go.PK
theorem im_set (x y z : Int) (T : List UInt8) (p : Value) (pay : List UInt8) (j : Nat) (c : UInt8) : (imC ⟨x, y, z, pay, T⟩ p).set (4 + j) (B8 c) = imC ⟨x, y, z, pay, T.set j c⟩ p := by
  show _ = ([.int .i64 x, .int .i64 y, .int .i64 z, p] : List Value) ++ (T.set j c).map B8
  rw [List.map_set]
  show (([.int .i64 x, .int .i64 y, .int .i64 z, p] : List Value) ++ T.map B8).set (4 + j) (B8 c) = _
  rw [List.set_append_right _ _ (by simp)]
  simp
theorem fill_set (T : List UInt8) (hT : T.length = 32) (j : Nat) (hj : j < 32) : (T.take j ++ List.replicate (32 - j) 0).set j (gb T j) = T.take (j + 1) ++ List.replicate (32 - (j + 1)) 0 := by
  have h1 : (T.take j).length = j := by rw [List.length_take, hT]; omega
  rw [List.set_append_right _ _ (by omega), h1, Nat.sub_self, show 32 - j = (32 - (j + 1)) + 1 from by omega, List.replicate_succ, List.set_cons_zero, List.take_succ_eq_append_getElem (by omega), List.append_assoc]
  unfold gb
  rw [List.getD_eq_getElem?_getD, List.getElem?_eq_getElem (by omega)]
  rfl
theorem gb_drop (b : List UInt8) (m j : Nat) : gb b (m + j) = gb (b.drop m) j := by
  unfold gb
  rw [List.getD_eq_getElem?_getD, List.getD_eq_getElem?_getD, List.getElem?_drop]
set_option maxRecDepth 100000 in
set_option maxHeartbeats 4000000 in
theorem ref11_Parse (w0 : World) (v : Value) (b : List UInt8) (hv : Bytes w0 v b) (hbl : b.length ≤ 140737488351232) :
    Calls Tryd.prog 14 #[v] w0 fun e w' => ∃ x c k ob cap n, Img.parse b = (x, (c, k)) ∧ Len x.pay n ∧ Len x.tag 32 ∧ e = .returned (.tuple #[.agg (imC x (sl ob n cap)).toArray, .agg (wrongC c k).toArray]) ∧ cap ≤ maxLen ∧ Mem [] w0 w' [⟨ob, 5, x.pay.map B8, cap⟩] := by
  have hM := Mem.start w0
  have hz := im0_zero
  have hzC := imC_len (x := Img.im0) (Len.rep 32 0) (.slice none 0 0)
  have hzw : Zr Tryd.prog 39 (wrongC 0 0) 2 := (zr_of rfl)
  obtain ⟨nb, hnb⟩ : ∃ n, b.length = n := ⟨_, rfl⟩
  obtain ⟨ao, cap0, rfl, g1, g2, -⟩ := id hv
  rw [hnb] at hbl g1 hv ⊢
  have hbl2 : Len b nb := Len.of hnb
  have hbigp : 524288 < nb → Img.parse b = (Img.im0, (4, 524288)) := fun h => parse_big (by rw [hnb]; exact h)
  have hfirp : ¬ 524288 < nb → ∀ e, Img.first b 0 16 = some e → Img.parse b = (Img.im0, e) := fun h e he => parse_first (by rw [hnb]; exact h) he
  have hresp : ¬ 524288 < nb → Img.first b 0 16 = none → Img.parse b = Img.rest b (Img.number (b.drop 12)) := fun h he => parse_rest (by rw [hnb]; exact h) he
  have h16 : Img.first b 0 16 = none → 16 ≤ nb := fun h => by
    rcases Nat.lt_or_ge b.length 16 with h1 | h1
    · have := Img.none_first 16 0 h b.length (by omega) (by omega)
      rw [Img.stop, if_pos rfl] at this
      cases this
    · omega
  have hbld : ∀ (w : World) (x y z : Int), (Instr.build 27 #[(0, .int .i64 x), (1, .int .i64 y), (2, .int .i64 z)]).run Tryd.prog w = .ok (.agg (imC ⟨x, y, z, [], List.replicate 32 0⟩ (.slice none 0 0)).toArray) w := fun w x y z => by kernel_rfl
  have hstop : ∀ k, k < 16 → k < nb → Img.stop b k = if Img.must k (gb b k) then none else some (5, k) := fun k _ hk => by rw [Img.stop, if_neg (by rw [hnb]; omega)]
  have hstop2 : Img.stop b nb = some (6, nb) := by rw [Img.stop, if_pos hnb.symm]
  have hcell : ∀ w, Bytes w (.slice ao nb cap0) b → ∀ k, k < nb → ∃ bb off, ao = some ⟨bb, off, none⟩ ∧ w.cell? ⟨bb, off + k, none⟩ = some (B8 (gb b k)) := fun w h k hk => by
    obtain ⟨bb, off, e, -, hc⟩ := h.at (k := k) (by rw [hnb]; exact hk)
    exact ⟨bb, off, e, hc⟩
  clear hnb
  go_enter Tryd.func14, Tryd.ntmps14
  by_cases hbig : 524288 < nb
  · have hbi : (524288 : Int) < (nb : Int) := by omega
    have hP := hbigp hbig
    clear hbigp hfirp hresp
    go_wp2_with (first
      | ((with_reducible refine gL_alloc (dst := some 2) hM ?_); refine ⟨_, _, hz, ?_⟩; intro gr _ hM2; clear hM; have hM := hM2; clear hM2)
      | ((with_reducible refine gL_alloc (dst := some 3) hM ?_); refine ⟨_, _, hzw, ?_⟩; intro gw _ hM2; clear hM; have hM := hM2; clear hM2)
      | go_skip | ((first | (with_reducible refine gL_load ?_) | ((with_reducible refine gG_load ?_ ?_); (exact wanted_of rfl rfl rfl rfl rfl))); refine ⟨_, _, rfl, (by (first | (assumption) | (exact hM.loads_B8 (by (repeat (first | exact .head _ | apply List.Mem.tail)); done) (on_of rfl) (by first | omega | (simp only [Len] at *; omega) | (simp; omega))) | (exact hM.loads_all (by (repeat (first | exact .head _ | apply List.Mem.tail)); done) (ag_of rfl) (by first | assumption | exact Len.map (by assumption) _ | rfl | exact Len.map (by rfl) _ | exact Len.of (by simp; done))) | (exact hM.loads_one (by (repeat (first | exact .head _ | apply List.Mem.tail)); done) (on_of rfl) rfl) | (exact hM.loads_W32 (by (repeat (first | exact .head _ | apply List.Mem.tail)); done) (on_of rfl) (by first | omega | (simp only [Len] at *; omega) | (simp; omega))) | (exact loads_cell (by assumption) (on_of rfl)))), ?_⟩) | ((with_reducible refine gL_store hM ?_); refine ⟨_, _, _, rfl, rfl, (by (first | (exact hM.stores_B8 (by first | exact (rfl : B8 _ = B8 _) | exact lit8 _ (by decide)) (by (repeat (first | exact .here _ _ _ | apply Has.there)); done) (on_of rfl) (by first | omega | (simp only [Len] at *; omega) | (simp; omega))) | (exact hM.stores_all (by (repeat (first | exact .here _ _ _ | apply Has.there)); done) (ag_of rfl) (by first | assumption | exact Len.map (by assumption) _ | rfl | exact Len.map (by rfl) _ | exact Len.of (by simp; done)) (by first | assumption | exact Len.map (by assumption) _ | rfl | exact Len.map (by rfl) _ | exact Len.of (by simp; done)) (by first | exact B8_one | exact W32_one | exact one_of_all rfl)) | (exact hM.stores_W32 rfl (by (repeat (first | exact .here _ _ _ | apply Has.there)); done) (on_of rfl) (by first | omega | (simp only [Len] at *; omega) | (simp; omega))) | (exact hM.stores_one (by (repeat (first | exact .here _ _ _ | apply Has.there)); done) (on_of rfl) (by first | omega | (simp only [Len] at *; omega) | (simp; omega)) rfl rfl))), ?_⟩; intro _ hM2; clear hM; have hM := hM2; clear hM2) | ((with_reducible refine gL_alloc hM ?_); refine ⟨_, _, (zr_of rfl), ?_⟩; intro _ _ hM2; clear hM; have hM := hM2; clear hM2) | ((with_reducible refine gL_box hM ?_); refine ⟨_, _, _, rfl, rfl, (by first | assumption | exact Len.map (by assumption) _ | rfl | exact Len.map (by rfl) _ | exact Len.of (by simp; done)), ?_⟩; intro _ _ hM2; clear hM; have hM := hM2; clear hM2) | ((with_reducible refine gL_build0 ?_); refine ⟨_, _, _, _, _, _, (zr_of rfl), (ua_of rfl), (ag_of rfl), (el_of rfl), ?_⟩) | ((with_reducible refine gL_buildBytes hM ?_); refine ⟨_, _, (us_of rfl), (el_of rfl), (by decide), (by decide), rfl, (by (repeat (first | exact EvB.nil | apply EvB.cons rfl (by first | exact (rfl : B8 _ = B8 _) | exact lit8 _ (by decide)))); done), ?_⟩; intro _ _ hM2; clear hM; have hM := hM2; clear hM2) | ((with_reducible refine gL_append_B hM ?_); refine ⟨_, _, _, _, _, _, _, _, _, _, rfl, rfl, (by first | exact (rfl : Value.slice (some ⟨_, 0, none⟩) _ _ = sl (some _) _ _) | exact (rfl : Value.slice none _ _ = sl none _ _) | rfl), (us_of rfl), (el_of rfl), (by first | exact hM.src (by (repeat (first | exact .head _ | apply List.Mem.tail)); done) | exact (hM.bytes0 (by assumption)).src), (fun _ _ => by (repeat (first | exact .here _ _ _ | apply Swap.there)); done), (by first | assumption | exact Len.map (by assumption) _ | rfl | exact Len.map (by rfl) _ | exact Len.of (by simp; done)), (by first | assumption | exact Len.map (by assumption) _ | rfl | exact Len.map (by rfl) _ | exact Len.of (by simp; done)), (by first | assumption | (simp [maxLen]; done) | omega | (simp [maxLen]; omega)), (by first | omega | (simp only [Len] at *; omega) | (simp; omega)), ?_⟩; intro _ _ _ hM2 _ _; clear hM; have hM := hM2; clear hM2) | ((first | (with_reducible refine gL_field ?_) | ((with_reducible refine gG_field ?_ ?_); (exact wanted_of rfl rfl rfl rfl rfl))); refine ⟨_, _, rfl, (by (first | (exact field_one (fb_of rfl) rfl) | (exact field_agg (fa_of rfl) rfl))), ?_⟩))
    have hM3 : Mem [] w0 _ (⟨some gw, 39, wrongC 4 524288, 2⟩ :: ⟨some gr, 27, imC Img.im0 (.slice none 0 0), 36⟩ :: []) := hM
    exact hM3.ret_cells rfl rfl rfl rfl (.tail _ (.head _)) (.head _) (ag_of rfl) (ag_of rfl) hzC rfl ⟨Img.im0, 4, 524288, none, 0, 0, hP, rfl, Len.rep 32 0, rfl, by decide, (hM3.drop.drop.addNil 5)⟩
  · have hbi : ¬ (524288 : Int) < (nb : Int) := by omega
    replace hfirp := hfirp hbig
    replace hresp := hresp hbig
    clear hbigp
    go_wp2_with (first
      | ((with_reducible refine gL_alloc (dst := some 2) hM ?_); refine ⟨_, _, hz, ?_⟩; intro gr _ hM2; clear hM; have hM := hM2; clear hM2)
      | ((with_reducible refine gL_alloc (dst := some 3) hM ?_); refine ⟨_, _, hzw, ?_⟩; intro gw _ hM2; clear hM; have hM := hM2; clear hM2)
      | go_skip | ((first | (with_reducible refine gL_load ?_) | ((with_reducible refine gG_load ?_ ?_); (exact wanted_of rfl rfl rfl rfl rfl))); refine ⟨_, _, rfl, (by (first | (assumption) | (exact hM.loads_B8 (by (repeat (first | exact .head _ | apply List.Mem.tail)); done) (on_of rfl) (by first | omega | (simp only [Len] at *; omega) | (simp; omega))) | (exact hM.loads_all (by (repeat (first | exact .head _ | apply List.Mem.tail)); done) (ag_of rfl) (by first | assumption | exact Len.map (by assumption) _ | rfl | exact Len.map (by rfl) _ | exact Len.of (by simp; done))) | (exact hM.loads_one (by (repeat (first | exact .head _ | apply List.Mem.tail)); done) (on_of rfl) rfl) | (exact hM.loads_W32 (by (repeat (first | exact .head _ | apply List.Mem.tail)); done) (on_of rfl) (by first | omega | (simp only [Len] at *; omega) | (simp; omega))) | (exact loads_cell (by assumption) (on_of rfl)))), ?_⟩) | ((with_reducible refine gL_store hM ?_); refine ⟨_, _, _, rfl, rfl, (by (first | (exact hM.stores_B8 (by first | exact (rfl : B8 _ = B8 _) | exact lit8 _ (by decide)) (by (repeat (first | exact .here _ _ _ | apply Has.there)); done) (on_of rfl) (by first | omega | (simp only [Len] at *; omega) | (simp; omega))) | (exact hM.stores_all (by (repeat (first | exact .here _ _ _ | apply Has.there)); done) (ag_of rfl) (by first | assumption | exact Len.map (by assumption) _ | rfl | exact Len.map (by rfl) _ | exact Len.of (by simp; done)) (by first | assumption | exact Len.map (by assumption) _ | rfl | exact Len.map (by rfl) _ | exact Len.of (by simp; done)) (by first | exact B8_one | exact W32_one | exact one_of_all rfl)) | (exact hM.stores_W32 rfl (by (repeat (first | exact .here _ _ _ | apply Has.there)); done) (on_of rfl) (by first | omega | (simp only [Len] at *; omega) | (simp; omega))) | (exact hM.stores_one (by (repeat (first | exact .here _ _ _ | apply Has.there)); done) (on_of rfl) (by first | omega | (simp only [Len] at *; omega) | (simp; omega)) rfl rfl))), ?_⟩; intro _ hM2; clear hM; have hM := hM2; clear hM2) | ((with_reducible refine gL_alloc hM ?_); refine ⟨_, _, (zr_of rfl), ?_⟩; intro _ _ hM2; clear hM; have hM := hM2; clear hM2) | ((with_reducible refine gL_box hM ?_); refine ⟨_, _, _, rfl, rfl, (by first | assumption | exact Len.map (by assumption) _ | rfl | exact Len.map (by rfl) _ | exact Len.of (by simp; done)), ?_⟩; intro _ _ hM2; clear hM; have hM := hM2; clear hM2) | ((with_reducible refine gL_build0 ?_); refine ⟨_, _, _, _, _, _, (zr_of rfl), (ua_of rfl), (ag_of rfl), (el_of rfl), ?_⟩) | ((with_reducible refine gL_buildBytes hM ?_); refine ⟨_, _, (us_of rfl), (el_of rfl), (by decide), (by decide), rfl, (by (repeat (first | exact EvB.nil | apply EvB.cons rfl (by first | exact (rfl : B8 _ = B8 _) | exact lit8 _ (by decide)))); done), ?_⟩; intro _ _ hM2; clear hM; have hM := hM2; clear hM2) | ((with_reducible refine gL_append_B hM ?_); refine ⟨_, _, _, _, _, _, _, _, _, _, rfl, rfl, (by first | exact (rfl : Value.slice (some ⟨_, 0, none⟩) _ _ = sl (some _) _ _) | exact (rfl : Value.slice none _ _ = sl none _ _) | rfl), (us_of rfl), (el_of rfl), (by first | exact hM.src (by (repeat (first | exact .head _ | apply List.Mem.tail)); done) | exact (hM.bytes0 (by assumption)).src), (fun _ _ => by (repeat (first | exact .here _ _ _ | apply Swap.there)); done), (by first | assumption | exact Len.map (by assumption) _ | rfl | exact Len.map (by rfl) _ | exact Len.of (by simp; done)), (by first | assumption | exact Len.map (by assumption) _ | rfl | exact Len.map (by rfl) _ | exact Len.of (by simp; done)), (by first | assumption | (simp [maxLen]; done) | omega | (simp [maxLen]; omega)), (by first | omega | (simp only [Len] at *; omega) | (simp; omega)), ?_⟩; intro _ _ _ hM2 _ _; clear hM; have hM := hM2; clear hM2) | ((first | (with_reducible refine gL_field ?_) | ((with_reducible refine gG_field ?_ ?_); (exact wanted_of rfl rfl rfl rfl rfl))); refine ⟨_, _, rfl, (by (first | (exact field_one (fb_of rfl) rfl) | (exact field_agg (fa_of rfl) rfl))), ?_⟩))
    go_loopw [4] (fun i wr => ∃ (k : Nat), k ≤ 16 ∧ k ≤ nb ∧ i = .int .i64 k ∧ Img.first b 0 16 = Img.first b k (16 - k) ∧ Mem [] w0 wr (⟨some gw, 39, wrongC 0 0, 2⟩ :: ⟨some gr, 27, imC Img.im0 (.slice none 0 0), 36⟩ :: [])) (fun i _ => 16 - (intOf i).toNat)
    case atStart => exact ⟨0, by omega, by omega, rfl, rfl, hM⟩
    case round =>
      clear hM
      obtain ⟨k, hk, hkn, rfl, hfk, hM⟩ := hrel
      by_cases hlt : k < 16
      · have hti : (k : Int) < 16 := by omega
        by_cases hend : k = nb
        · subst hend
          have hP := hfirp (6, k) (by rw [hfk, show 16 - k = (15 - k) + 1 from by omega]; exact Img.first_end hstop2)
          clear hfirp hresp hfk hstop hstop2 hcell h16
          go_wp2_with (first | go_skip | ((first | (with_reducible refine gL_load ?_) | ((with_reducible refine gG_load ?_ ?_); (exact wanted_of rfl rfl rfl rfl rfl))); refine ⟨_, _, rfl, (by (first | (assumption) | (exact hM.loads_B8 (by (repeat (first | exact .head _ | apply List.Mem.tail)); done) (on_of rfl) (by first | omega | (simp only [Len] at *; omega) | (simp; omega))) | (exact hM.loads_all (by (repeat (first | exact .head _ | apply List.Mem.tail)); done) (ag_of rfl) (by first | assumption | exact Len.map (by assumption) _ | rfl | exact Len.map (by rfl) _ | exact Len.of (by simp; done))) | (exact hM.loads_one (by (repeat (first | exact .head _ | apply List.Mem.tail)); done) (on_of rfl) rfl) | (exact hM.loads_W32 (by (repeat (first | exact .head _ | apply List.Mem.tail)); done) (on_of rfl) (by first | omega | (simp only [Len] at *; omega) | (simp; omega))) | (exact loads_cell (by assumption) (on_of rfl)))), ?_⟩) | ((with_reducible refine gL_store hM ?_); refine ⟨_, _, _, rfl, rfl, (by (first | (exact hM.stores_B8 (by first | exact (rfl : B8 _ = B8 _) | exact lit8 _ (by decide)) (by (repeat (first | exact .here _ _ _ | apply Has.there)); done) (on_of rfl) (by first | omega | (simp only [Len] at *; omega) | (simp; omega))) | (exact hM.stores_all (by (repeat (first | exact .here _ _ _ | apply Has.there)); done) (ag_of rfl) (by first | assumption | exact Len.map (by assumption) _ | rfl | exact Len.map (by rfl) _ | exact Len.of (by simp; done)) (by first | assumption | exact Len.map (by assumption) _ | rfl | exact Len.map (by rfl) _ | exact Len.of (by simp; done)) (by first | exact B8_one | exact W32_one | exact one_of_all rfl)) | (exact hM.stores_W32 rfl (by (repeat (first | exact .here _ _ _ | apply Has.there)); done) (on_of rfl) (by first | omega | (simp only [Len] at *; omega) | (simp; omega))) | (exact hM.stores_one (by (repeat (first | exact .here _ _ _ | apply Has.there)); done) (on_of rfl) (by first | omega | (simp only [Len] at *; omega) | (simp; omega)) rfl rfl))), ?_⟩; intro _ hM2; clear hM; have hM := hM2; clear hM2) | ((with_reducible refine gL_alloc hM ?_); refine ⟨_, _, (zr_of rfl), ?_⟩; intro _ _ hM2; clear hM; have hM := hM2; clear hM2) | ((with_reducible refine gL_box hM ?_); refine ⟨_, _, _, rfl, rfl, (by first | assumption | exact Len.map (by assumption) _ | rfl | exact Len.map (by rfl) _ | exact Len.of (by simp; done)), ?_⟩; intro _ _ hM2; clear hM; have hM := hM2; clear hM2) | ((with_reducible refine gL_build0 ?_); refine ⟨_, _, _, _, _, _, (zr_of rfl), (ua_of rfl), (ag_of rfl), (el_of rfl), ?_⟩) | ((with_reducible refine gL_buildBytes hM ?_); refine ⟨_, _, (us_of rfl), (el_of rfl), (by decide), (by decide), rfl, (by (repeat (first | exact EvB.nil | apply EvB.cons rfl (by first | exact (rfl : B8 _ = B8 _) | exact lit8 _ (by decide)))); done), ?_⟩; intro _ _ hM2; clear hM; have hM := hM2; clear hM2) | ((with_reducible refine gL_append_B hM ?_); refine ⟨_, _, _, _, _, _, _, _, _, _, rfl, rfl, (by first | exact (rfl : Value.slice (some ⟨_, 0, none⟩) _ _ = sl (some _) _ _) | exact (rfl : Value.slice none _ _ = sl none _ _) | rfl), (us_of rfl), (el_of rfl), (by first | exact hM.src (by (repeat (first | exact .head _ | apply List.Mem.tail)); done) | exact (hM.bytes0 (by assumption)).src), (fun _ _ => by (repeat (first | exact .here _ _ _ | apply Swap.there)); done), (by first | assumption | exact Len.map (by assumption) _ | rfl | exact Len.map (by rfl) _ | exact Len.of (by simp; done)), (by first | assumption | exact Len.map (by assumption) _ | rfl | exact Len.map (by rfl) _ | exact Len.of (by simp; done)), (by first | assumption | (simp [maxLen]; done) | omega | (simp [maxLen]; omega)), (by first | omega | (simp only [Len] at *; omega) | (simp; omega)), ?_⟩; intro _ _ _ hM2 _ _; clear hM; have hM := hM2; clear hM2) | ((first | (with_reducible refine gL_field ?_) | ((with_reducible refine gG_field ?_ ?_); (exact wanted_of rfl rfl rfl rfl rfl))); refine ⟨_, _, rfl, (by (first | (exact field_one (fb_of rfl) rfl) | (exact field_agg (fa_of rfl) rfl))), ?_⟩))
          have hM3 : Mem [] w0 _ (⟨some gw, 39, wrongC 6 k, 2⟩ :: ⟨some gr, 27, imC Img.im0 (.slice none 0 0), 36⟩ :: []) := hM
          exact hM3.ret_cells rfl rfl rfl rfl (.tail _ (.head _)) (.head _) (ag_of rfl) (ag_of rfl) hzC rfl ⟨Img.im0, 6, k, none, 0, 0, hP, rfl, Len.rep 32 0, rfl, by decide, (hM3.drop.drop.addNil 5)⟩
        · have hkl : k < nb := by omega
          have hki : (k : Int) < (nb : Int) := by omega
          have hne : ¬ (k : Int) = (nb : Int) := by omega
          obtain ⟨bb, off, rfl, hc⟩ := hcell _ (hM.bytes0 hv) k hkl
          have hs := hstop k hlt hkl
          by_cases hm : Img.must k (gb b k) = true
          · rw [if_pos hm] at hs
            have hf2 : Img.first b 0 16 = Img.first b (k + 1) (16 - (k + 1)) := by rw [hfk, show 16 - k = (16 - (k + 1)) + 1 from by omega]; exact Img.first_step hs
            have hcall : ∀ w, Calls Tryd.prog 30 #[.int .i64 (k : Int), B8 (gb b k)] w fun e w' => e = .returned (.bool true) ∧ w' = w := fun w => hm ▸ ref11_must w k hlt _
            generalize gb b k = c at *
            clear hfirp hresp hfk hstop hstop2 hcell h16 hs hm
            go_wp2_with (first
              | ((with_reducible refine gL_load (dst := some 30) ?_); refine ⟨_, _, rfl, loads_cell hc (on_of rfl), ?_⟩)
              | (go_at_call 30; (with_reducible refine (hcall _).mono ?_); rintro _ _ ⟨rfl, rfl⟩))
            go_roundw
            case rel => exact ⟨k + 1, by omega, by omega, by go_num, hf2, hM⟩
            case measure => simp [intOf]; omega
          · replace hm : Img.must k (gb b k) = false := by simpa using hm
            rw [hm] at hs
            have hP := hfirp (5, k) (by rw [hfk, show 16 - k = (15 - k) + 1 from by omega]; exact Img.first_end hs)
            have hcall : ∀ w, Calls Tryd.prog 30 #[.int .i64 (k : Int), B8 (gb b k)] w fun e w' => e = .returned (.bool false) ∧ w' = w := fun w => hm ▸ ref11_must w k hlt _
            generalize gb b k = c at *
            clear hfirp hresp hfk hstop hstop2 hcell h16 hs hm
            go_wp2_with (first
              | ((with_reducible refine gL_load (dst := some 30) ?_); refine ⟨_, _, rfl, loads_cell hc (on_of rfl), ?_⟩)
              | (go_at_call 30; (with_reducible refine (hcall _).mono ?_); rintro _ _ ⟨rfl, rfl⟩)
              | go_skip | ((first | (with_reducible refine gL_load ?_) | ((with_reducible refine gG_load ?_ ?_); (exact wanted_of rfl rfl rfl rfl rfl))); refine ⟨_, _, rfl, (by (first | (assumption) | (exact hM.loads_B8 (by (repeat (first | exact .head _ | apply List.Mem.tail)); done) (on_of rfl) (by first | omega | (simp only [Len] at *; omega) | (simp; omega))) | (exact hM.loads_all (by (repeat (first | exact .head _ | apply List.Mem.tail)); done) (ag_of rfl) (by first | assumption | exact Len.map (by assumption) _ | rfl | exact Len.map (by rfl) _ | exact Len.of (by simp; done))) | (exact hM.loads_one (by (repeat (first | exact .head _ | apply List.Mem.tail)); done) (on_of rfl) rfl) | (exact hM.loads_W32 (by (repeat (first | exact .head _ | apply List.Mem.tail)); done) (on_of rfl) (by first | omega | (simp only [Len] at *; omega) | (simp; omega))) | (exact loads_cell (by assumption) (on_of rfl)))), ?_⟩) | ((with_reducible refine gL_store hM ?_); refine ⟨_, _, _, rfl, rfl, (by (first | (exact hM.stores_B8 (by first | exact (rfl : B8 _ = B8 _) | exact lit8 _ (by decide)) (by (repeat (first | exact .here _ _ _ | apply Has.there)); done) (on_of rfl) (by first | omega | (simp only [Len] at *; omega) | (simp; omega))) | (exact hM.stores_all (by (repeat (first | exact .here _ _ _ | apply Has.there)); done) (ag_of rfl) (by first | assumption | exact Len.map (by assumption) _ | rfl | exact Len.map (by rfl) _ | exact Len.of (by simp; done)) (by first | assumption | exact Len.map (by assumption) _ | rfl | exact Len.map (by rfl) _ | exact Len.of (by simp; done)) (by first | exact B8_one | exact W32_one | exact one_of_all rfl)) | (exact hM.stores_W32 rfl (by (repeat (first | exact .here _ _ _ | apply Has.there)); done) (on_of rfl) (by first | omega | (simp only [Len] at *; omega) | (simp; omega))) | (exact hM.stores_one (by (repeat (first | exact .here _ _ _ | apply Has.there)); done) (on_of rfl) (by first | omega | (simp only [Len] at *; omega) | (simp; omega)) rfl rfl))), ?_⟩; intro _ hM2; clear hM; have hM := hM2; clear hM2) | ((with_reducible refine gL_alloc hM ?_); refine ⟨_, _, (zr_of rfl), ?_⟩; intro _ _ hM2; clear hM; have hM := hM2; clear hM2) | ((with_reducible refine gL_box hM ?_); refine ⟨_, _, _, rfl, rfl, (by first | assumption | exact Len.map (by assumption) _ | rfl | exact Len.map (by rfl) _ | exact Len.of (by simp; done)), ?_⟩; intro _ _ hM2; clear hM; have hM := hM2; clear hM2) | ((with_reducible refine gL_build0 ?_); refine ⟨_, _, _, _, _, _, (zr_of rfl), (ua_of rfl), (ag_of rfl), (el_of rfl), ?_⟩) | ((with_reducible refine gL_buildBytes hM ?_); refine ⟨_, _, (us_of rfl), (el_of rfl), (by decide), (by decide), rfl, (by (repeat (first | exact EvB.nil | apply EvB.cons rfl (by first | exact (rfl : B8 _ = B8 _) | exact lit8 _ (by decide)))); done), ?_⟩; intro _ _ hM2; clear hM; have hM := hM2; clear hM2) | ((with_reducible refine gL_append_B hM ?_); refine ⟨_, _, _, _, _, _, _, _, _, _, rfl, rfl, (by first | exact (rfl : Value.slice (some ⟨_, 0, none⟩) _ _ = sl (some _) _ _) | exact (rfl : Value.slice none _ _ = sl none _ _) | rfl), (us_of rfl), (el_of rfl), (by first | exact hM.src (by (repeat (first | exact .head _ | apply List.Mem.tail)); done) | exact (hM.bytes0 (by assumption)).src), (fun _ _ => by (repeat (first | exact .here _ _ _ | apply Swap.there)); done), (by first | assumption | exact Len.map (by assumption) _ | rfl | exact Len.map (by rfl) _ | exact Len.of (by simp; done)), (by first | assumption | exact Len.map (by assumption) _ | rfl | exact Len.map (by rfl) _ | exact Len.of (by simp; done)), (by first | assumption | (simp [maxLen]; done) | omega | (simp [maxLen]; omega)), (by first | omega | (simp only [Len] at *; omega) | (simp; omega)), ?_⟩; intro _ _ _ hM2 _ _; clear hM; have hM := hM2; clear hM2) | ((first | (with_reducible refine gL_field ?_) | ((with_reducible refine gG_field ?_ ?_); (exact wanted_of rfl rfl rfl rfl rfl))); refine ⟨_, _, rfl, (by (first | (exact field_one (fb_of rfl) rfl) | (exact field_agg (fa_of rfl) rfl))), ?_⟩))
            have hM3 : Mem [] w0 _ (⟨some gw, 39, wrongC 5 k, 2⟩ :: ⟨some gr, 27, imC Img.im0 (.slice none 0 0), 36⟩ :: []) := hM
            exact hM3.ret_cells rfl rfl rfl rfl (.tail _ (.head _)) (.head _) (ag_of rfl) (ag_of rfl) hzC rfl ⟨Img.im0, 5, k, none, 0, 0, hP, rfl, Len.rep 32 0, rfl, by decide, (hM3.drop.drop.addNil 5)⟩
      · have hke : k = 16 := by omega
        subst hke
        replace hresp := hresp hfk
        have hn16 := h16 hfk
        clear hfirp hfk hstop hstop2 h16
        have hB := hM.bytes0 hv
        obtain ⟨ao2, hS12, hB12, -⟩ := bytes_from (P := Tryd.prog) hB (t := 23) (us_of rfl) (by exact elOne rfl) (k := 12) (by omega)
        have hnum := ref11_number _ _ _ _ _ hB12 (by omega)
        obtain ⟨N, hN⟩ : ∃ N, N = Img.number (b.drop 12) := ⟨_, rfl⟩
        have hNlt : N < 4294967296 := by rw [hN]; exact Img.number_lt _
        rw [← hN] at hnum hresp
        clear hN
        go_wp2_with (first
          | ((with_reducible refine gL_slice (dst := some 37) ?_); refine ⟨_, hS12, ?_⟩)
          | go_skip | ((first | (with_reducible refine gL_load ?_) | ((with_reducible refine gG_load ?_ ?_); (exact wanted_of rfl rfl rfl rfl rfl))); refine ⟨_, _, rfl, (by (first | (assumption) | (exact hM.loads_B8 (by (repeat (first | exact .head _ | apply List.Mem.tail)); done) (on_of rfl) (by first | omega | (simp only [Len] at *; omega) | (simp; omega))) | (exact hM.loads_all (by (repeat (first | exact .head _ | apply List.Mem.tail)); done) (ag_of rfl) (by first | assumption | exact Len.map (by assumption) _ | rfl | exact Len.map (by rfl) _ | exact Len.of (by simp; done))) | (exact hM.loads_one (by (repeat (first | exact .head _ | apply List.Mem.tail)); done) (on_of rfl) rfl) | (exact hM.loads_W32 (by (repeat (first | exact .head _ | apply List.Mem.tail)); done) (on_of rfl) (by first | omega | (simp only [Len] at *; omega) | (simp; omega))) | (exact loads_cell (by assumption) (on_of rfl)))), ?_⟩) | ((with_reducible refine gL_store hM ?_); refine ⟨_, _, _, rfl, rfl, (by (first | (exact hM.stores_B8 (by first | exact (rfl : B8 _ = B8 _) | exact lit8 _ (by decide)) (by (repeat (first | exact .here _ _ _ | apply Has.there)); done) (on_of rfl) (by first | omega | (simp only [Len] at *; omega) | (simp; omega))) | (exact hM.stores_all (by (repeat (first | exact .here _ _ _ | apply Has.there)); done) (ag_of rfl) (by first | assumption | exact Len.map (by assumption) _ | rfl | exact Len.map (by rfl) _ | exact Len.of (by simp; done)) (by first | assumption | exact Len.map (by assumption) _ | rfl | exact Len.map (by rfl) _ | exact Len.of (by simp; done)) (by first | exact B8_one | exact W32_one | exact one_of_all rfl)) | (exact hM.stores_W32 rfl (by (repeat (first | exact .here _ _ _ | apply Has.there)); done) (on_of rfl) (by first | omega | (simp only [Len] at *; omega) | (simp; omega))) | (exact hM.stores_one (by (repeat (first | exact .here _ _ _ | apply Has.there)); done) (on_of rfl) (by first | omega | (simp only [Len] at *; omega) | (simp; omega)) rfl rfl))), ?_⟩; intro _ hM2; clear hM; have hM := hM2; clear hM2) | ((with_reducible refine gL_alloc hM ?_); refine ⟨_, _, (zr_of rfl), ?_⟩; intro _ _ hM2; clear hM; have hM := hM2; clear hM2) | ((with_reducible refine gL_box hM ?_); refine ⟨_, _, _, rfl, rfl, (by first | assumption | exact Len.map (by assumption) _ | rfl | exact Len.map (by rfl) _ | exact Len.of (by simp; done)), ?_⟩; intro _ _ hM2; clear hM; have hM := hM2; clear hM2) | ((with_reducible refine gL_build0 ?_); refine ⟨_, _, _, _, _, _, (zr_of rfl), (ua_of rfl), (ag_of rfl), (el_of rfl), ?_⟩) | ((with_reducible refine gL_buildBytes hM ?_); refine ⟨_, _, (us_of rfl), (el_of rfl), (by decide), (by decide), rfl, (by (repeat (first | exact EvB.nil | apply EvB.cons rfl (by first | exact (rfl : B8 _ = B8 _) | exact lit8 _ (by decide)))); done), ?_⟩; intro _ _ hM2; clear hM; have hM := hM2; clear hM2) | ((with_reducible refine gL_append_B hM ?_); refine ⟨_, _, _, _, _, _, _, _, _, _, rfl, rfl, (by first | exact (rfl : Value.slice (some ⟨_, 0, none⟩) _ _ = sl (some _) _ _) | exact (rfl : Value.slice none _ _ = sl none _ _) | rfl), (us_of rfl), (el_of rfl), (by first | exact hM.src (by (repeat (first | exact .head _ | apply List.Mem.tail)); done) | exact (hM.bytes0 (by assumption)).src), (fun _ _ => by (repeat (first | exact .here _ _ _ | apply Swap.there)); done), (by first | assumption | exact Len.map (by assumption) _ | rfl | exact Len.map (by rfl) _ | exact Len.of (by simp; done)), (by first | assumption | exact Len.map (by assumption) _ | rfl | exact Len.map (by rfl) _ | exact Len.of (by simp; done)), (by first | assumption | (simp [maxLen]; done) | omega | (simp [maxLen]; omega)), (by first | omega | (simp only [Len] at *; omega) | (simp; omega)), ?_⟩; intro _ _ _ hM2 _ _; clear hM; have hM := hM2; clear hM2) | ((first | (with_reducible refine gL_field ?_) | ((with_reducible refine gG_field ?_ ?_); (exact wanted_of rfl rfl rfl rfl rfl))); refine ⟨_, _, rfl, (by (first | (exact field_one (fb_of rfl) rfl) | (exact field_agg (fa_of rfl) rfl))), ?_⟩))
        refine hnum.mono ?_
        clear hnum hB12 hS12 hB
        rintro _ w1 ⟨rfl, rfl⟩
        obtain ⟨M, hMd⟩ : ∃ M, M = 16 + N := ⟨_, rfl⟩
        obtain ⟨E, hEd⟩ : ∃ E, E = N + 48 := ⟨_, rfl⟩
        have he1 : (N : Int) + 16 = (M : Int) := by omega
        have he2 : (M : Int) + 32 = (E : Int) := by omega
        have HMd : ∀ _ : Unit, M = 16 + N := fun _ => hMd
        have hEl : E ≤ 4294967400 := by omega
        have hNE : N + 48 = E := hEd.symm
        clear hMd hEd
        by_cases hlong : 524240 < N
        · have hP := hresp.trans (rest_long hlong)
          have hli : (524240 : Int) < (N : Int) := by omega
          clear hresp hcell hNE hlong
          go_wp2_with (first | go_skip | ((first | (with_reducible refine gL_load ?_) | ((with_reducible refine gG_load ?_ ?_); (exact wanted_of rfl rfl rfl rfl rfl))); refine ⟨_, _, rfl, (by (first | (assumption) | (exact hM.loads_B8 (by (repeat (first | exact .head _ | apply List.Mem.tail)); done) (on_of rfl) (by first | omega | (simp only [Len] at *; omega) | (simp; omega))) | (exact hM.loads_all (by (repeat (first | exact .head _ | apply List.Mem.tail)); done) (ag_of rfl) (by first | assumption | exact Len.map (by assumption) _ | rfl | exact Len.map (by rfl) _ | exact Len.of (by simp; done))) | (exact hM.loads_one (by (repeat (first | exact .head _ | apply List.Mem.tail)); done) (on_of rfl) rfl) | (exact hM.loads_W32 (by (repeat (first | exact .head _ | apply List.Mem.tail)); done) (on_of rfl) (by first | omega | (simp only [Len] at *; omega) | (simp; omega))) | (exact loads_cell (by assumption) (on_of rfl)))), ?_⟩) | ((with_reducible refine gL_store hM ?_); refine ⟨_, _, _, rfl, rfl, (by (first | (exact hM.stores_B8 (by first | exact (rfl : B8 _ = B8 _) | exact lit8 _ (by decide)) (by (repeat (first | exact .here _ _ _ | apply Has.there)); done) (on_of rfl) (by first | omega | (simp only [Len] at *; omega) | (simp; omega))) | (exact hM.stores_all (by (repeat (first | exact .here _ _ _ | apply Has.there)); done) (ag_of rfl) (by first | assumption | exact Len.map (by assumption) _ | rfl | exact Len.map (by rfl) _ | exact Len.of (by simp; done)) (by first | assumption | exact Len.map (by assumption) _ | rfl | exact Len.map (by rfl) _ | exact Len.of (by simp; done)) (by first | exact B8_one | exact W32_one | exact one_of_all rfl)) | (exact hM.stores_W32 rfl (by (repeat (first | exact .here _ _ _ | apply Has.there)); done) (on_of rfl) (by first | omega | (simp only [Len] at *; omega) | (simp; omega))) | (exact hM.stores_one (by (repeat (first | exact .here _ _ _ | apply Has.there)); done) (on_of rfl) (by first | omega | (simp only [Len] at *; omega) | (simp; omega)) rfl rfl))), ?_⟩; intro _ hM2; clear hM; have hM := hM2; clear hM2) | ((with_reducible refine gL_alloc hM ?_); refine ⟨_, _, (zr_of rfl), ?_⟩; intro _ _ hM2; clear hM; have hM := hM2; clear hM2) | ((with_reducible refine gL_box hM ?_); refine ⟨_, _, _, rfl, rfl, (by first | assumption | exact Len.map (by assumption) _ | rfl | exact Len.map (by rfl) _ | exact Len.of (by simp; done)), ?_⟩; intro _ _ hM2; clear hM; have hM := hM2; clear hM2) | ((with_reducible refine gL_build0 ?_); refine ⟨_, _, _, _, _, _, (zr_of rfl), (ua_of rfl), (ag_of rfl), (el_of rfl), ?_⟩) | ((with_reducible refine gL_buildBytes hM ?_); refine ⟨_, _, (us_of rfl), (el_of rfl), (by decide), (by decide), rfl, (by (repeat (first | exact EvB.nil | apply EvB.cons rfl (by first | exact (rfl : B8 _ = B8 _) | exact lit8 _ (by decide)))); done), ?_⟩; intro _ _ hM2; clear hM; have hM := hM2; clear hM2) | ((with_reducible refine gL_append_B hM ?_); refine ⟨_, _, _, _, _, _, _, _, _, _, rfl, rfl, (by first | exact (rfl : Value.slice (some ⟨_, 0, none⟩) _ _ = sl (some _) _ _) | exact (rfl : Value.slice none _ _ = sl none _ _) | rfl), (us_of rfl), (el_of rfl), (by first | exact hM.src (by (repeat (first | exact .head _ | apply List.Mem.tail)); done) | exact (hM.bytes0 (by assumption)).src), (fun _ _ => by (repeat (first | exact .here _ _ _ | apply Swap.there)); done), (by first | assumption | exact Len.map (by assumption) _ | rfl | exact Len.map (by rfl) _ | exact Len.of (by simp; done)), (by first | assumption | exact Len.map (by assumption) _ | rfl | exact Len.map (by rfl) _ | exact Len.of (by simp; done)), (by first | assumption | (simp [maxLen]; done) | omega | (simp [maxLen]; omega)), (by first | omega | (simp only [Len] at *; omega) | (simp; omega)), ?_⟩; intro _ _ _ hM2 _ _; clear hM; have hM := hM2; clear hM2) | ((first | (with_reducible refine gL_field ?_) | ((with_reducible refine gG_field ?_ ?_); (exact wanted_of rfl rfl rfl rfl rfl))); refine ⟨_, _, rfl, (by (first | (exact field_one (fb_of rfl) rfl) | (exact field_agg (fa_of rfl) rfl))), ?_⟩))
          have hM3 : Mem [] w0 _ (⟨some gw, 39, wrongC 5 12, 2⟩ :: ⟨some gr, 27, imC Img.im0 (.slice none 0 0), 36⟩ :: []) := hM
          exact hM3.ret_cells rfl rfl rfl rfl (.tail _ (.head _)) (.head _) (ag_of rfl) (ag_of rfl) hzC rfl ⟨Img.im0, 5, 12, none, 0, 0, hP, rfl, Len.rep 32 0, rfl, by decide, (hM3.drop.drop.addNil 5)⟩
        · have hli : ¬ (524240 : Int) < (N : Int) := by omega
          by_cases hshort : nb < E
          · have hP := hresp.trans (rest_short hbl2 hlong (by rw [hNE]; exact hshort))
            have hsi : (nb : Int) < (E : Int) := by omega
            clear hlong hshort hresp hcell hNE
            go_wp2_with (first | go_skip | ((first | (with_reducible refine gL_load ?_) | ((with_reducible refine gG_load ?_ ?_); (exact wanted_of rfl rfl rfl rfl rfl))); refine ⟨_, _, rfl, (by (first | (assumption) | (exact hM.loads_B8 (by (repeat (first | exact .head _ | apply List.Mem.tail)); done) (on_of rfl) (by first | omega | (simp only [Len] at *; omega) | (simp; omega))) | (exact hM.loads_all (by (repeat (first | exact .head _ | apply List.Mem.tail)); done) (ag_of rfl) (by first | assumption | exact Len.map (by assumption) _ | rfl | exact Len.map (by rfl) _ | exact Len.of (by simp; done))) | (exact hM.loads_one (by (repeat (first | exact .head _ | apply List.Mem.tail)); done) (on_of rfl) rfl) | (exact hM.loads_W32 (by (repeat (first | exact .head _ | apply List.Mem.tail)); done) (on_of rfl) (by first | omega | (simp only [Len] at *; omega) | (simp; omega))) | (exact loads_cell (by assumption) (on_of rfl)))), ?_⟩) | ((with_reducible refine gL_store hM ?_); refine ⟨_, _, _, rfl, rfl, (by (first | (exact hM.stores_B8 (by first | exact (rfl : B8 _ = B8 _) | exact lit8 _ (by decide)) (by (repeat (first | exact .here _ _ _ | apply Has.there)); done) (on_of rfl) (by first | omega | (simp only [Len] at *; omega) | (simp; omega))) | (exact hM.stores_all (by (repeat (first | exact .here _ _ _ | apply Has.there)); done) (ag_of rfl) (by first | assumption | exact Len.map (by assumption) _ | rfl | exact Len.map (by rfl) _ | exact Len.of (by simp; done)) (by first | assumption | exact Len.map (by assumption) _ | rfl | exact Len.map (by rfl) _ | exact Len.of (by simp; done)) (by first | exact B8_one | exact W32_one | exact one_of_all rfl)) | (exact hM.stores_W32 rfl (by (repeat (first | exact .here _ _ _ | apply Has.there)); done) (on_of rfl) (by first | omega | (simp only [Len] at *; omega) | (simp; omega))) | (exact hM.stores_one (by (repeat (first | exact .here _ _ _ | apply Has.there)); done) (on_of rfl) (by first | omega | (simp only [Len] at *; omega) | (simp; omega)) rfl rfl))), ?_⟩; intro _ hM2; clear hM; have hM := hM2; clear hM2) | ((with_reducible refine gL_alloc hM ?_); refine ⟨_, _, (zr_of rfl), ?_⟩; intro _ _ hM2; clear hM; have hM := hM2; clear hM2) | ((with_reducible refine gL_box hM ?_); refine ⟨_, _, _, rfl, rfl, (by first | assumption | exact Len.map (by assumption) _ | rfl | exact Len.map (by rfl) _ | exact Len.of (by simp; done)), ?_⟩; intro _ _ hM2; clear hM; have hM := hM2; clear hM2) | ((with_reducible refine gL_build0 ?_); refine ⟨_, _, _, _, _, _, (zr_of rfl), (ua_of rfl), (ag_of rfl), (el_of rfl), ?_⟩) | ((with_reducible refine gL_buildBytes hM ?_); refine ⟨_, _, (us_of rfl), (el_of rfl), (by decide), (by decide), rfl, (by (repeat (first | exact EvB.nil | apply EvB.cons rfl (by first | exact (rfl : B8 _ = B8 _) | exact lit8 _ (by decide)))); done), ?_⟩; intro _ _ hM2; clear hM; have hM := hM2; clear hM2) | ((with_reducible refine gL_append_B hM ?_); refine ⟨_, _, _, _, _, _, _, _, _, _, rfl, rfl, (by first | exact (rfl : Value.slice (some ⟨_, 0, none⟩) _ _ = sl (some _) _ _) | exact (rfl : Value.slice none _ _ = sl none _ _) | rfl), (us_of rfl), (el_of rfl), (by first | exact hM.src (by (repeat (first | exact .head _ | apply List.Mem.tail)); done) | exact (hM.bytes0 (by assumption)).src), (fun _ _ => by (repeat (first | exact .here _ _ _ | apply Swap.there)); done), (by first | assumption | exact Len.map (by assumption) _ | rfl | exact Len.map (by rfl) _ | exact Len.of (by simp; done)), (by first | assumption | exact Len.map (by assumption) _ | rfl | exact Len.map (by rfl) _ | exact Len.of (by simp; done)), (by first | assumption | (simp [maxLen]; done) | omega | (simp [maxLen]; omega)), (by first | omega | (simp only [Len] at *; omega) | (simp; omega)), ?_⟩; intro _ _ _ hM2 _ _; clear hM; have hM := hM2; clear hM2) | ((first | (with_reducible refine gL_field ?_) | ((with_reducible refine gG_field ?_ ?_); (exact wanted_of rfl rfl rfl rfl rfl))); refine ⟨_, _, rfl, (by (first | (exact field_one (fb_of rfl) rfl) | (exact field_agg (fa_of rfl) rfl))), ?_⟩))
            have hM3 : Mem [] w0 _ (⟨some gw, 39, wrongC 6 nb, 2⟩ :: ⟨some gr, 27, imC Img.im0 (.slice none 0 0), 36⟩ :: []) := hM
            exact hM3.ret_cells rfl rfl rfl rfl (.tail _ (.head _)) (.head _) (ag_of rfl) (ag_of rfl) hzC rfl ⟨Img.im0, 6, nb, none, 0, 0, hP, rfl, Len.rep 32 0, rfl, by decide, (hM3.drop.drop.addNil 5)⟩
          · have hsi : ¬ (nb : Int) < (E : Int) := by omega
            by_cases hmore : E < nb
            · have hP := hresp.trans (rest_more hbl2 hlong (by rw [hNE]; exact hshort) (by rw [hNE]; exact hmore))
              rw [hNE] at hP
              have hmi : (E : Int) < (nb : Int) := by omega
              clear hlong hshort hmore hresp hcell hNE
              go_wp2_with (first | go_skip | ((first | (with_reducible refine gL_load ?_) | ((with_reducible refine gG_load ?_ ?_); (exact wanted_of rfl rfl rfl rfl rfl))); refine ⟨_, _, rfl, (by (first | (assumption) | (exact hM.loads_B8 (by (repeat (first | exact .head _ | apply List.Mem.tail)); done) (on_of rfl) (by first | omega | (simp only [Len] at *; omega) | (simp; omega))) | (exact hM.loads_all (by (repeat (first | exact .head _ | apply List.Mem.tail)); done) (ag_of rfl) (by first | assumption | exact Len.map (by assumption) _ | rfl | exact Len.map (by rfl) _ | exact Len.of (by simp; done))) | (exact hM.loads_one (by (repeat (first | exact .head _ | apply List.Mem.tail)); done) (on_of rfl) rfl) | (exact hM.loads_W32 (by (repeat (first | exact .head _ | apply List.Mem.tail)); done) (on_of rfl) (by first | omega | (simp only [Len] at *; omega) | (simp; omega))) | (exact loads_cell (by assumption) (on_of rfl)))), ?_⟩) | ((with_reducible refine gL_store hM ?_); refine ⟨_, _, _, rfl, rfl, (by (first | (exact hM.stores_B8 (by first | exact (rfl : B8 _ = B8 _) | exact lit8 _ (by decide)) (by (repeat (first | exact .here _ _ _ | apply Has.there)); done) (on_of rfl) (by first | omega | (simp only [Len] at *; omega) | (simp; omega))) | (exact hM.stores_all (by (repeat (first | exact .here _ _ _ | apply Has.there)); done) (ag_of rfl) (by first | assumption | exact Len.map (by assumption) _ | rfl | exact Len.map (by rfl) _ | exact Len.of (by simp; done)) (by first | assumption | exact Len.map (by assumption) _ | rfl | exact Len.map (by rfl) _ | exact Len.of (by simp; done)) (by first | exact B8_one | exact W32_one | exact one_of_all rfl)) | (exact hM.stores_W32 rfl (by (repeat (first | exact .here _ _ _ | apply Has.there)); done) (on_of rfl) (by first | omega | (simp only [Len] at *; omega) | (simp; omega))) | (exact hM.stores_one (by (repeat (first | exact .here _ _ _ | apply Has.there)); done) (on_of rfl) (by first | omega | (simp only [Len] at *; omega) | (simp; omega)) rfl rfl))), ?_⟩; intro _ hM2; clear hM; have hM := hM2; clear hM2) | ((with_reducible refine gL_alloc hM ?_); refine ⟨_, _, (zr_of rfl), ?_⟩; intro _ _ hM2; clear hM; have hM := hM2; clear hM2) | ((with_reducible refine gL_box hM ?_); refine ⟨_, _, _, rfl, rfl, (by first | assumption | exact Len.map (by assumption) _ | rfl | exact Len.map (by rfl) _ | exact Len.of (by simp; done)), ?_⟩; intro _ _ hM2; clear hM; have hM := hM2; clear hM2) | ((with_reducible refine gL_build0 ?_); refine ⟨_, _, _, _, _, _, (zr_of rfl), (ua_of rfl), (ag_of rfl), (el_of rfl), ?_⟩) | ((with_reducible refine gL_buildBytes hM ?_); refine ⟨_, _, (us_of rfl), (el_of rfl), (by decide), (by decide), rfl, (by (repeat (first | exact EvB.nil | apply EvB.cons rfl (by first | exact (rfl : B8 _ = B8 _) | exact lit8 _ (by decide)))); done), ?_⟩; intro _ _ hM2; clear hM; have hM := hM2; clear hM2) | ((with_reducible refine gL_append_B hM ?_); refine ⟨_, _, _, _, _, _, _, _, _, _, rfl, rfl, (by first | exact (rfl : Value.slice (some ⟨_, 0, none⟩) _ _ = sl (some _) _ _) | exact (rfl : Value.slice none _ _ = sl none _ _) | rfl), (us_of rfl), (el_of rfl), (by first | exact hM.src (by (repeat (first | exact .head _ | apply List.Mem.tail)); done) | exact (hM.bytes0 (by assumption)).src), (fun _ _ => by (repeat (first | exact .here _ _ _ | apply Swap.there)); done), (by first | assumption | exact Len.map (by assumption) _ | rfl | exact Len.map (by rfl) _ | exact Len.of (by simp; done)), (by first | assumption | exact Len.map (by assumption) _ | rfl | exact Len.map (by rfl) _ | exact Len.of (by simp; done)), (by first | assumption | (simp [maxLen]; done) | omega | (simp [maxLen]; omega)), (by first | omega | (simp only [Len] at *; omega) | (simp; omega)), ?_⟩; intro _ _ _ hM2 _ _; clear hM; have hM := hM2; clear hM2) | ((first | (with_reducible refine gL_field ?_) | ((with_reducible refine gG_field ?_ ?_); (exact wanted_of rfl rfl rfl rfl rfl))); refine ⟨_, _, rfl, (by (first | (exact field_one (fb_of rfl) rfl) | (exact field_agg (fa_of rfl) rfl))), ?_⟩))
              have hM3 : Mem [] w0 _ (⟨some gw, 39, wrongC 7 E, 2⟩ :: ⟨some gr, 27, imC Img.im0 (.slice none 0 0), 36⟩ :: []) := hM
              exact hM3.ret_cells rfl rfl rfl rfl (.tail _ (.head _)) (.head _) (ag_of rfl) (ag_of rfl) hzC rfl ⟨Img.im0, 7, E, none, 0, 0, hP, rfl, Len.rep 32 0, rfl, by decide, (hM3.drop.drop.addNil 5)⟩
            · have hP := hresp.trans (rest_just hbl2 hlong (by rw [hNE]; exact hshort) (by rw [hNE]; exact hmore))
              have hmi : ¬ (E : Int) < (nb : Int) := by omega
              have hnbE : nb = E := by omega
              subst hnbE
              obtain ⟨p5, p6, p8, hpv⟩ : ∃ p5 p6 p8, Img.parse b = (⟨((p5 : UInt8).toNat : Int), ((p6 : UInt8).toNat : Int), ((p8 : Nat) : Int), (b.drop 16).take N, b.drop M⟩, (0, 0)) ∧ p5 = gb b 5 ∧ p6 = gb b 6 ∧ p8 = Img.number (b.drop 8) := ⟨_, _, _, by rw [HMd ()]; exact hP, rfl, rfl, rfl⟩
              obtain ⟨hP2, hp5, hp6, hp8⟩ := hpv
              have hB := hM.bytes0 hv
              obtain ⟨bb, off, rfl, -⟩ := hcell _ hB 5 (by omega)
              have hcb : ∀ w', Bytes w' (.slice (some ⟨bb, off, none⟩) nb cap0) b → ∀ k, k < nb → w'.cell? ⟨bb, off + k, none⟩ = some (B8 (gb b k)) := fun w' hb k hk => by
                obtain ⟨b2, o2, e2, h5⟩ := hcell _ hb k hk
                cases e2
                exact h5
              obtain ⟨ao8, hS8, hB8, -⟩ := bytes_from (P := Tryd.prog) hB (t := 23) (us_of rfl) (by exact elOne rfl) (k := 8) (by omega)
              have hnum8 : ∀ w', Adds w1 w' → Calls Tryd.prog 31 #[.slice ao8 (nb - 8) (cap0 - 8)] w' fun e w'' => e = .returned (.int .i64 (p8 : Int)) ∧ Below w'.heap.size w' w'' := fun w' hb => by
                rw [hp8]
                refine (ref11_number w' _ _ _ _ (hB8.adds hb) (by omega)).mono ?_
                rintro e w'' ⟨rfl, rfl⟩
                exact ⟨rfl, Below.refl _ _⟩
              have hcc : ∀ w', Adds w1 w' → w'.cell? ⟨bb, off + 5 * 1, none⟩ = some (B8 p5) ∧ w'.cell? ⟨bb, off + 6 * 1, none⟩ = some (B8 p6) := fun w' hb => by
                rw [hp5, hp6]
                exact ⟨hcb _ (hB.adds hb) 5 (by omega), hcb _ (hB.adds hb) 6 (by omega)⟩
              clear hP hcell hp5 hp6 hp8 hresp
              go_wp2_with fail
              try simp only [Act.put, List.setIfInBounds_toArray, List.set_cons_succ, List.set_cons_zero]
              refine wp_region_tail 13 (by decide) (fun c vals => ⟨#[(Value.slice (some ⟨bb, off, none⟩) nb cap0 : Value), c 1, c 2, c 3, c 4, c 5, c 6, vals 12, c 8, c 9, c 10, c 11, c 12, c 13, c 14, c 15, c 16, c 17, c 18, c 19, c 20, c 21, c 22, c 23, c 24, c 25, c 26, c 27, c 28, c 29, c 30, c 31, c 32, c 33, c 34, c 35, c 36, c 37, c 38, c 39, c 40, c 41, c 42, c 43, c 44, c 45, c 46, c 47, c 48, c 49, c 50, c 51, c 52, c 53, c 54, c 55, c 56, c 57, c 58, c 59, c 60, vals 0, vals 1, vals 2, vals 3, vals 4, vals 5, vals 6, vals 7, vals 8, vals 9, vals 10, vals 11, c 73, c 74, c 75, c 76, c 77, c 78, c 79, c 80, c 81, c 82, c 83, c 84, c 85, c 86, c 87, c 88, c 89, c 90, c 91, c 92, c 93, c 94, c 95, c 96], []⟩) (fun t => [undef, _, _, _, _, _, _, undef, _, _, _, _, _, _, _, _, _, _, _, _, _, _, _, _, _, _, _, _, _, _, _, _, _, _, _, _, _, _, _, _, _, _, _, _, _, _, _, _, _, _, _, _, _, _, _, _, _, _, _, _, _, undef, undef, undef, undef, undef, undef, undef, undef, undef, undef, undef, undef, _, _, _, _, _, _, _, _, _, _, _, _, _, _, _, _, _, _, _, _, _, _, _, _].getD t undef) (fun i => [_, _, _, _, _, _, _, _, _, _, _, _, _].getD i undef) (by kernel_rfl)
                [[], [0], [0, 1], [0, 1, 2], [], [4], [4, 5], [4, 5, 6], [], [8], [8, 9], [0, 1, 2, 3, 4, 5, 6, 7, 8, 9, 10], [], [0, 1, 2, 3, 4, 5, 6, 7, 8, 9, 10, 11, 12]] (by kernel_rfl) (by kernel_rfl) (fun _ => True) trivial
                [fun x _ => x = (Value.slice (some ⟨bb, off, none⟩) nb cap0 : Value),
                 fun x _ => x = (Value.pointer (some ⟨bb, off + 5 * 1, none⟩) : Value),
                 fun x _ => x = (B8 p5 : Value),
                 fun x _ => x = (Value.int .i64 (p5.toNat : Int) : Value),
                 fun x _ => x = (Value.slice (some ⟨bb, off, none⟩) nb cap0 : Value),
                 fun x _ => x = (Value.pointer (some ⟨bb, off + 6 * 1, none⟩) : Value),
                 fun x _ => x = (B8 p6 : Value),
                 fun x _ => x = (Value.int .i64 (p6.toNat : Int) : Value),
                 fun x _ => x = (Value.slice (some ⟨bb, off, none⟩) nb cap0 : Value),
                 fun x _ => x = (Value.slice ao8 (nb - 8) (cap0 - 8) : Value),
                 fun x _ => x = (Value.int .i64 (p8 : Int) : Value),
                 fun x _ => x = (Value.agg (imC ⟨(p5.toNat : Int), (p6.toNat : Int), (p8 : Int), [], List.replicate 32 0⟩ (Value.slice none 0 0)).toArray : Value),
                 fun (xx : Value) (ww : World) => ∃ g7, xx = .pointer (some ⟨g7, 0, none⟩) ∧ Mem [] w1 ww [⟨some g7, 27, imC Img.im0 (.slice none 0 0), 36⟩]]
                ⟨fun _ _ _ h _ => h, fun _ _ _ h _ => h, fun _ _ _ h _ => h, fun _ _ _ h _ => h, fun _ _ _ h _ => h, fun _ _ _ h _ => h, fun _ _ _ h _ => h, fun _ _ _ h _ => h, fun _ _ _ h _ => h, fun _ _ _ h _ => h, fun _ _ _ h _ => h, fun _ _ _ h _ => h, fun _ _ _ h hb => (let ⟨g7, h1, h2⟩ := h; ⟨g7, h1, h2.adds hb⟩), trivial⟩ []
                ⟨?_, ?_, ?_, ?_, ?_, ?_, ?_, ?_, ?_, ?_, ?_, ?_, ?_, trivial⟩ ?_
              · refine showA_op 0 (by intro _ _ _; kernel_rfl) rfl rfl (fun c vals w hC hD => ?_)
                clear hD
                refine makes1 (x := .tmp 0) (X := Value.slice (some ⟨bb, off, none⟩) nb cap0) (by kernel_rfl : _ = (Value.slice (some ⟨bb, off, none⟩) nb cap0 : Value)) (fun ρ rc rf q0 => ?_)
                exact makes_move (.inl rfl) q0 ⟨Adds.refl _, rfl⟩
              · refine showA_op 1 (by intro _ _ _; kernel_rfl) rfl rfl (fun c vals w hC hD => ?_)
                have h0 : vals 0 = .slice (some ⟨bb, off, none⟩) nb cap0 := hD 0 rfl
                clear hD
                refine makes1 (x := .tmp 61) (X := Value.slice (some ⟨bb, off, none⟩) nb cap0) ((by kernel_rfl : _ = vals 0).trans h0) (fun ρ rc rf q61 => ?_)
                clear h0
                exact makes_index (us_of rfl) (el_of rfl) (j := 5) (by omega) rfl q61 (rc _) ⟨Adds.refl _, rfl⟩
              · refine showA_op 2 (by intro _ _ _; kernel_rfl) rfl rfl (fun c vals w hC hD => ?_)
                have h1 : vals 1 = .pointer (some ⟨bb, off + 5 * 1, none⟩) := hD 1 rfl
                clear hD
                refine makes1 (x := .tmp 62) (X := Value.pointer (some ⟨bb, off + 5 * 1, none⟩)) ((by kernel_rfl : _ = vals 1).trans h1) (fun ρ rc rf q62 => ?_)
                clear h1
                exact makes_load (loads_cell (hcc _ hC).1 (on_of rfl)) rfl q62 ⟨Adds.refl _, rfl⟩
              · refine showA_op 3 (by intro _ _ _; kernel_rfl) rfl rfl (fun c vals w hC hD => ?_)
                have h2 : vals 2 = B8 p5 := hD 2 rfl
                clear hD
                refine makes1 (x := .tmp 63) (X := B8 p5) ((by kernel_rfl : _ = vals 2).trans h2) (fun ρ rc rf q63 => ?_)
                clear h2
                (refine makes_value (v := .int .i64 (p5.toNat : Int)) ?_ ⟨Adds.refl _, rfl⟩; go_simp)
              · refine showA_op 4 (by intro _ _ _; kernel_rfl) rfl rfl (fun c vals w hC hD => ?_)
                clear hD
                refine makes1 (x := .tmp 0) (X := Value.slice (some ⟨bb, off, none⟩) nb cap0) (by kernel_rfl : _ = (Value.slice (some ⟨bb, off, none⟩) nb cap0 : Value)) (fun ρ rc rf q0 => ?_)
                exact makes_move (.inl rfl) q0 ⟨Adds.refl _, rfl⟩
              · refine showA_op 5 (by intro _ _ _; kernel_rfl) rfl rfl (fun c vals w hC hD => ?_)
                have h4 : vals 4 = .slice (some ⟨bb, off, none⟩) nb cap0 := hD 4 rfl
                clear hD
                refine makes1 (x := .tmp 65) (X := Value.slice (some ⟨bb, off, none⟩) nb cap0) ((by kernel_rfl : _ = vals 4).trans h4) (fun ρ rc rf q65 => ?_)
                clear h4
                exact makes_index (us_of rfl) (el_of rfl) (j := 6) (by omega) rfl q65 (rc _) ⟨Adds.refl _, rfl⟩
              · refine showA_op 6 (by intro _ _ _; kernel_rfl) rfl rfl (fun c vals w hC hD => ?_)
                have h5 : vals 5 = .pointer (some ⟨bb, off + 6 * 1, none⟩) := hD 5 rfl
                clear hD
                refine makes1 (x := .tmp 66) (X := Value.pointer (some ⟨bb, off + 6 * 1, none⟩)) ((by kernel_rfl : _ = vals 5).trans h5) (fun ρ rc rf q66 => ?_)
                clear h5
                exact makes_load (loads_cell (hcc _ hC).2 (on_of rfl)) rfl q66 ⟨Adds.refl _, rfl⟩
              · refine showA_op 7 (by intro _ _ _; kernel_rfl) rfl rfl (fun c vals w hC hD => ?_)
                have h6 : vals 6 = B8 p6 := hD 6 rfl
                clear hD
                refine makes1 (x := .tmp 67) (X := B8 p6) ((by kernel_rfl : _ = vals 6).trans h6) (fun ρ rc rf q67 => ?_)
                clear h6
                (refine makes_value (v := .int .i64 (p6.toNat : Int)) ?_ ⟨Adds.refl _, rfl⟩; go_simp)
              · refine showA_op 8 (by intro _ _ _; kernel_rfl) rfl rfl (fun c vals w hC hD => ?_)
                clear hD
                refine makes1 (x := .tmp 0) (X := Value.slice (some ⟨bb, off, none⟩) nb cap0) (by kernel_rfl : _ = (Value.slice (some ⟨bb, off, none⟩) nb cap0 : Value)) (fun ρ rc rf q0 => ?_)
                exact makes_move (.inl rfl) q0 ⟨Adds.refl _, rfl⟩
              · refine showA_op 9 (by intro _ _ _; kernel_rfl) rfl rfl (fun c vals w hC hD => ?_)
                have h8 : vals 8 = .slice (some ⟨bb, off, none⟩) nb cap0 := hD 8 rfl
                clear hD
                refine makes1 (x := .tmp 69) (X := Value.slice (some ⟨bb, off, none⟩) nb cap0) ((by kernel_rfl : _ = vals 8).trans h8) (fun ρ rc rf q69 => ?_)
                clear h8
                exact makes_slice hS8 rfl q69 (congrArg some (rc _)) rfl rfl ⟨Adds.refl _, rfl⟩
              · refine showA_op 10 (by intro _ _ _; kernel_rfl) rfl rfl (fun c vals w hC hD => ?_)
                have h9 : vals 9 = .slice ao8 (nb - 8) (cap0 - 8) := hD 9 rfl
                clear hD
                refine makes1 (x := .tmp 70) (X := Value.slice ao8 (nb - 8) (cap0 - 8)) ((by kernel_rfl : _ = vals 9).trans h9) (fun ρ rc rf q70 => ?_)
                clear h9
                refine makes_call (hnum8 _ hC) ?_ (by rintro e w' ⟨rfl, hb⟩; exact ⟨_, rfl, hb, rfl⟩)
                go_simp
              · refine showA_op 11 (by intro _ _ _; kernel_rfl) rfl rfl (fun c vals w hC hD => ?_)
                have h3 : vals 3 = .int .i64 (p5.toNat : Int) := hD 3 rfl
                have h7 : vals 7 = .int .i64 (p6.toNat : Int) := hD 7 rfl
                have h10 : vals 10 = .int .i64 (p8 : Int) := hD 10 rfl
                clear hD
                refine makes3 (x := .tmp 64) (X := Value.int .i64 (p5.toNat : Int)) (y := .tmp 68) (Y := Value.int .i64 (p6.toNat : Int)) (z := .tmp 71) (Z := Value.int .i64 (p8 : Int)) ((by kernel_rfl : _ = vals 3).trans h3) ((by kernel_rfl : _ = vals 7).trans h7) ((by kernel_rfl : _ = vals 10).trans h10) (fun ρ rc rf q64 q68 q71 => ?_)
                clear h3 h7 h10
                exact makes_build1 (fun w => hbld w _ _ _) rfl (by simp only [List.map_cons, List.map_nil]; rw [q64, q68, q71]) ⟨Adds.refl _, rfl⟩
              · refine showA_op 12 (by intro _ _ _; kernel_rfl) rfl rfl (fun c vals w hC hD => ?_)
                clear hD
                refine makes0 (fun ρ rc rf => ?_)
                exact makes_alloc hz rfl (fun g w' h1 => ⟨h1.done, g, rfl, ((Mem.start _).adds hC).join h1 (by simp)⟩)
              intro vals w' hC hΦ hne
              have h11 : vals 11 = .agg (imC ⟨(p5.toNat : Int), (p6.toNat : Int), (p8 : Int), [], List.replicate 32 0⟩ (.slice none 0 0)).toArray := hΦ 11 (by decide)
              have h12 : (fun (xx : Value) (ww : World) => ∃ g7, xx = .pointer (some ⟨g7, 0, none⟩) ∧ Mem [] w1 ww [⟨some g7, 27, imC Img.im0 (.slice none 0 0), 36⟩]) (vals 12) w' := hΦ 12 (by decide)
              clear hΦ hne
              simp only [List.getD_eq_getElem?_getD, List.getElem?_cons_zero, List.getElem?_cons_succ, Option.getD_some, List.drop_succ_cons, List.drop_zero]
              simp only [h11]
              clear h11
              try simp only [tuple_undef]
              obtain ⟨g7, e7, m7⟩ := h12
              replace hM := hM.addMem m7
              simp only [List.cons_append, List.nil_append] at hM
              simp only [e7]
              clear e7 m7 hC hcc hS8 hnum8 hB8 hbld hB
              have he3 : (nb : Int) - 32 = (M : Int) := by omega
              obtain ⟨ao16, hS16, hB16⟩ := bytes_cut (P := Tryd.prog) hv (t := 23) (us_of rfl) (by exact elOne rfl) (lo := 16) (hi := M) (by rw [HMd ()]; omega) (by omega)
              rw [show M - 16 = N from by rw [HMd ()]; omega] at hS16 hB16
              have hpl : Len ((b.drop 16).take N) N := Len.of (by rw [List.length_take, List.length_drop, hbl2.eq]; omega)
              have hTl : Len (b.drop M) 32 := Len.of (by rw [List.length_drop, hbl2.eq]; omega)
              have hC1l := imC_len (x := ⟨(p5.toNat : Int), (p6.toNat : Int), (p8 : Int), [], List.replicate 32 0⟩) (Len.rep 32 0) (.slice none 0 0)
              have hC1o : ∀ v ∈ imC ⟨(p5.toNat : Int), (p6.toNat : Int), (p8 : Int), [], List.replicate 32 0⟩ (.slice none 0 0), v.oneCell' = true := one_of_all rfl
              have hset3 : ∀ v, (imC ⟨(p5.toNat : Int), (p6.toNat : Int), (p8 : Int), [], List.replicate 32 0⟩ (.slice none 0 0)).set 3 v = imC ⟨(p5.toNat : Int), (p6.toNat : Int), (p8 : Int), [], List.replicate 32 0⟩ v := fun _ => rfl
              go_wp2_with (first
                | ((with_reducible refine gL_store (x := .tmp 7) hM ?_); refine ⟨_, _, _, rfl, rfl, hM.stores_all (.here _ _ _) (ag_of rfl) hC1l hzC hC1o, ?_⟩; intro wB hM2; clear hM; have hM := hM2; clear hM2)
                | ((with_reducible refine gL_buildEmpty (dst := some 73) hM ?_); refine ⟨_, _, _, (us_of rfl), (el_of rfl), ?_⟩; intro g73 _ hM2; clear hM; have hM := hM2; clear hM2)
                | ((with_reducible refine gL_slice (dst := some 78) ?_); refine ⟨_, hS16, ?_⟩)
                | ((with_reducible refine gL_append_B (dst := some 79) hM ?_); have hx := (hM.bytes0 hB16).src; rw [hpl.eq] at hx; refine ⟨_, _, some g73, 0, 0, 5, [], (b.drop 16).take N, N, _, rfl, rfl, rfl, (us_of rfl), (el_of rfl), hx, (fun _ _ => .here _ _ _), rfl, hpl, (by decide), (by omega), ?_⟩; clear hx; intro ob1 cap1 _ hM2 h11 h12; rw [Nat.zero_add] at h11 ⊢; rw [List.nil_append] at hM2; clear hM; have hM := hM2; clear hM2)
                | ((with_reducible refine gL_store (x := .tmp 80) hM ?_); refine ⟨_, sl ob1 N cap1, _, rfl, rfl, hM.stores_one (.there _ (.here _ _ _)) (on_of rfl) (by rw [hC1l.eq]; decide) rfl rfl, ?_⟩; rw [hset3]; intro _ hM2; clear hM; have hM := hM2; clear hM2))
              clear hset3 hC1o hC1l hS16 hB16
              have hcl : ∀ T, Len T 32 → Len (imC ⟨(p5.toNat : Int), (p6.toNat : Int), (p8 : Int), [], T⟩ (sl ob1 N cap1)) 36 := fun T h => imC_len (x := ⟨(p5.toNat : Int), (p6.toNat : Int), (p8 : Int), [], T⟩) h _
              have hse : ∀ (T : List UInt8) (j : Nat) (c : UInt8), (imC ⟨(p5.toNat : Int), (p6.toNat : Int), (p8 : Int), [], T⟩ (sl ob1 N cap1)).set (4 + j) (B8 c) = imC ⟨(p5.toNat : Int), (p6.toNat : Int), (p8 : Int), [], T.set j c⟩ (sl ob1 N cap1) := fun T j c => im_set _ _ _ T _ [] j c
              obtain ⟨F, hF⟩ : ∃ F : List UInt8 → List Value, F = fun T => imC ⟨(p5.toNat : Int), (p6.toNat : Int), (p8 : Int), [], T⟩ (sl ob1 N cap1) := ⟨_, rfl⟩
              have hFe : ∀ T, imC ⟨(p5.toNat : Int), (p6.toNat : Int), (p8 : Int), [], T⟩ (sl ob1 N cap1) = F T := fun T => by rw [hF]
              have hFo : ∀ T, ∀ v ∈ F T, v.oneCell' = true := fun T => by
                rw [hF]
                intro v hv
                rcases List.mem_append.1 hv with h | h
                · simp at h
                  rcases h with rfl | rfl | rfl | rfl <;> rfl
                · obtain ⟨c, _, rfl⟩ := List.mem_map.1 h
                  rfl
              have HFE : ∀ _ : Unit, ∀ T, F T = imC ⟨(p5.toNat : Int), (p6.toNat : Int), (p8 : Int), [], T⟩ (sl ob1 N cap1) := fun _ T => by rw [hF]
              simp only [hFe] at hcl hse
              rw [hFe] at hM
              clear hF hFe
              go_loopw [9] (fun i wr => ∃ (j : Nat), j ≤ 32 ∧ i = .int .i64 j ∧ Mem [] w0 wr (⟨ob1, 5, ((b.drop 16).take N).map B8, cap1⟩ :: ⟨some g7, 27, F ((b.drop M).take j ++ List.replicate (32 - j) 0), 36⟩ :: ⟨some gw, 39, wrongC 0 0, 2⟩ :: ⟨some gr, 27, imC Img.im0 (.slice none 0 0), 36⟩ :: [])) (fun i _ => 32 - (intOf i).toNat)
              case atStart => exact ⟨0, by omega, rfl, hM⟩
              case round =>
                clear hM
                obtain ⟨j, hj, rfl, hM⟩ := hrel
                have hTj : Len ((b.drop M).take j ++ List.replicate (32 - j) 0) 32 := Len.of (by rw [List.length_append, List.length_take, hTl.eq, List.length_replicate]; omega)
                by_cases hlt : j < 32
                · have hti : (j : Int) < 32 := by omega
                  obtain ⟨q, hq⟩ : ∃ q, q = M + j := ⟨_, rfl⟩
                  have he4 : (M : Int) + (j : Int) = (q : Int) := by omega
                  have hqi : (q : Int) < (nb : Int) := by omega
                  have hcq := hcb _ (hM.bytes0 hv) q (by omega)
                  have hnx : ∀ _ : Unit, ((b.drop M).take j ++ List.replicate (32 - j) 0).set j (gb b q) = (b.drop M).take (j + 1) ++ List.replicate (32 - (j + 1)) 0 := fun _ => by rw [hq, gb_drop]; exact fill_set _ hTl.eq j hlt
                  have hlen := hcl _ hTj
                  have hse2 : ∀ _ : Unit, (F ((b.drop M).take j ++ List.replicate (32 - j) 0)).set (4 + j) (B8 (gb b q)) = F ((b.drop M).take (j + 1) ++ List.replicate (32 - (j + 1)) 0) := fun _ => by rw [hse, hnx ()]
                  obtain ⟨A, hA⟩ : ∃ A, A = F ((b.drop M).take j ++ List.replicate (32 - j) 0) := ⟨_, rfl⟩
                  rw [← hA] at hM hlen hse2
                  generalize gb b q = c at *
                  clear hcb hcl hse hnx hq hA
                  go_wp2_with (first
                    | ((with_reducible refine gL_load (dst := some 92) ?_); refine ⟨_, _, rfl, loads_cell hcq (on_of rfl), ?_⟩)
                    | ((with_reducible refine gL_store hM ?_); refine ⟨_, B8 c, _, rfl, rfl, hM.stores_one (.there _ (.here _ _ _)) (on_of rfl) (by rw [hlen.eq]; omega) rfl rfl, ?_⟩; rw [hse2 ()]; intro _ hM2; clear hM; have hM := hM2; clear hM2))
                  go_roundw
                  case rel => exact ⟨j + 1, by omega, by go_num, hM⟩
                  case measure => simp [intOf]; omega
                · have hje : j = 32 := by omega
                  subst hje
                  have ht : (b.drop M).take 32 = b.drop M := List.take_of_length_le (by rw [hTl.eq]; exact Nat.le_refl _)
                  rw [Nat.sub_self, List.replicate_zero, List.append_nil, ht] at hM
                  clear ht
                  have hlen := hcl _ hTl
                  have ho := hFo (b.drop M)
                  obtain ⟨A, hA⟩ : ∃ A, A = F (b.drop M) := ⟨_, rfl⟩
                  have HA : ∀ _ : Unit, A = imC ⟨(p5.toNat : Int), (p6.toNat : Int), (p8 : Int), (b.drop 16).take N, b.drop M⟩ (sl ob1 N cap1) := fun _ => by rw [hA, HFE ()]
                  rw [← hA] at hM hlen ho
                  clear hcb hcl hse hA hFo
                  go_wp2_with (first
                    | ((with_reducible refine gL_load (dst := some 95) ?_); refine ⟨_, _, rfl, hM.loads_all (.tail _ (.head _)) (ag_of rfl) hlen, ?_⟩)
                    | ((with_reducible refine gL_store (x := .tmp 2) hM ?_); refine ⟨_, _, _, rfl, rfl, hM.stores_all (.there _ (.there _ (.there _ (.here _ _ _)))) (ag_of rfl) hlen hzC ho, ?_⟩; intro _ hM2; clear hM; have hM := hM2; clear hM2)
                    | go_skip | ((first | (with_reducible refine gL_load ?_) | ((with_reducible refine gG_load ?_ ?_); (exact wanted_of rfl rfl rfl rfl rfl))); refine ⟨_, _, rfl, (by (first | (assumption) | (exact hM.loads_B8 (by (repeat (first | exact .head _ | apply List.Mem.tail)); done) (on_of rfl) (by first | omega | (simp only [Len] at *; omega) | (simp; omega))) | (exact hM.loads_all (by (repeat (first | exact .head _ | apply List.Mem.tail)); done) (ag_of rfl) (by first | assumption | exact Len.map (by assumption) _ | rfl | exact Len.map (by rfl) _ | exact Len.of (by simp; done))) | (exact hM.loads_one (by (repeat (first | exact .head _ | apply List.Mem.tail)); done) (on_of rfl) rfl) | (exact hM.loads_W32 (by (repeat (first | exact .head _ | apply List.Mem.tail)); done) (on_of rfl) (by first | omega | (simp only [Len] at *; omega) | (simp; omega))) | (exact loads_cell (by assumption) (on_of rfl)))), ?_⟩) | ((with_reducible refine gL_store hM ?_); refine ⟨_, _, _, rfl, rfl, (by (first | (exact hM.stores_B8 (by first | exact (rfl : B8 _ = B8 _) | exact lit8 _ (by decide)) (by (repeat (first | exact .here _ _ _ | apply Has.there)); done) (on_of rfl) (by first | omega | (simp only [Len] at *; omega) | (simp; omega))) | (exact hM.stores_all (by (repeat (first | exact .here _ _ _ | apply Has.there)); done) (ag_of rfl) (by first | assumption | exact Len.map (by assumption) _ | rfl | exact Len.map (by rfl) _ | exact Len.of (by simp; done)) (by first | assumption | exact Len.map (by assumption) _ | rfl | exact Len.map (by rfl) _ | exact Len.of (by simp; done)) (by first | exact B8_one | exact W32_one | exact one_of_all rfl)) | (exact hM.stores_W32 rfl (by (repeat (first | exact .here _ _ _ | apply Has.there)); done) (on_of rfl) (by first | omega | (simp only [Len] at *; omega) | (simp; omega))) | (exact hM.stores_one (by (repeat (first | exact .here _ _ _ | apply Has.there)); done) (on_of rfl) (by first | omega | (simp only [Len] at *; omega) | (simp; omega)) rfl rfl))), ?_⟩; intro _ hM2; clear hM; have hM := hM2; clear hM2) | ((with_reducible refine gL_alloc hM ?_); refine ⟨_, _, (zr_of rfl), ?_⟩; intro _ _ hM2; clear hM; have hM := hM2; clear hM2) | ((with_reducible refine gL_box hM ?_); refine ⟨_, _, _, rfl, rfl, (by first | assumption | exact Len.map (by assumption) _ | rfl | exact Len.map (by rfl) _ | exact Len.of (by simp; done)), ?_⟩; intro _ _ hM2; clear hM; have hM := hM2; clear hM2) | ((with_reducible refine gL_build0 ?_); refine ⟨_, _, _, _, _, _, (zr_of rfl), (ua_of rfl), (ag_of rfl), (el_of rfl), ?_⟩) | ((with_reducible refine gL_buildBytes hM ?_); refine ⟨_, _, (us_of rfl), (el_of rfl), (by decide), (by decide), rfl, (by (repeat (first | exact EvB.nil | apply EvB.cons rfl (by first | exact (rfl : B8 _ = B8 _) | exact lit8 _ (by decide)))); done), ?_⟩; intro _ _ hM2; clear hM; have hM := hM2; clear hM2) | ((with_reducible refine gL_append_B hM ?_); refine ⟨_, _, _, _, _, _, _, _, _, _, rfl, rfl, (by first | exact (rfl : Value.slice (some ⟨_, 0, none⟩) _ _ = sl (some _) _ _) | exact (rfl : Value.slice none _ _ = sl none _ _) | rfl), (us_of rfl), (el_of rfl), (by first | exact hM.src (by (repeat (first | exact .head _ | apply List.Mem.tail)); done) | exact (hM.bytes0 (by assumption)).src), (fun _ _ => by (repeat (first | exact .here _ _ _ | apply Swap.there)); done), (by first | assumption | exact Len.map (by assumption) _ | rfl | exact Len.map (by rfl) _ | exact Len.of (by simp; done)), (by first | assumption | exact Len.map (by assumption) _ | rfl | exact Len.map (by rfl) _ | exact Len.of (by simp; done)), (by first | assumption | (simp [maxLen]; done) | omega | (simp [maxLen]; omega)), (by first | omega | (simp only [Len] at *; omega) | (simp; omega)), ?_⟩; intro _ _ _ hM2 _ _; clear hM; have hM := hM2; clear hM2) | ((first | (with_reducible refine gL_field ?_) | ((with_reducible refine gG_field ?_ ?_); (exact wanted_of rfl rfl rfl rfl rfl))); refine ⟨_, _, rfl, (by (first | (exact field_one (fb_of rfl) rfl) | (exact field_agg (fa_of rfl) rfl))), ?_⟩))
                  have hM3 : Mem [] w0 _ (⟨ob1, 5, ((b.drop 16).take N).map B8, cap1⟩ :: ⟨some g7, 27, A, 36⟩ :: ⟨some gw, 39, wrongC 0 0, 2⟩ :: ⟨some gr, 27, A, 36⟩ :: []) := hM
                  exact hM3.ret_cells rfl rfl rfl rfl (.tail _ (.tail _ (.tail _ (.head _)))) (.tail _ (.tail _ (.head _))) (ag_of rfl) (ag_of rfl) hlen rfl ⟨_, 0, 0, ob1, cap1, N, hP2, hpl, hTl, by rw [HA ()]; rfl, h12, hM3.drop2.drop2.drop2⟩
end Go.Proofs.YtejmbkljnhnklaaDoor
namespace Go.Proofs.YtejmbkljnhnklaaDoor
open Go.RowKit Go.PK
theorem str_of {w : World} {v : Value} {l : List UInt8} (h : Bytes w v l) : (convert 23 9 v).run Tryd.prog w = .ok (.string ⟨l.toArray⟩) w :=
  run_str 23 9 5 Tryd.underlying23 Tryd.underlying5 Tryd.underlying9 h
theorem body_short {b : List UInt8} {nb : Nat} (h : Len b nb) (k : nb < 32) : Img.body b = [] := by rw [Img.body, if_pos (by rw [h.eq]; exact k)]
theorem body_long {b : List UInt8} {nb : Nat} (h : Len b nb) (k : ¬ nb < 32) : Img.body b = b.take (nb - 32) := by rw [Img.body, if_neg (by rw [h.eq]; exact k), h.eq]
set_option maxRecDepth 100000 in
set_option maxHeartbeats 4000000 in
theorem image_Body (w0 : World) (v : Value) (b : List UInt8) (hv : Bytes w0 v b) (hbl : b.length ≤ 140737488351232) :
    Calls Tryd.prog 17 #[v] w0 fun e w' => ∃ ob m cap, e = .returned (sl ob m cap) ∧ Len (Img.body b) m ∧ cap ≤ maxLen ∧ Mem [] w0 w' [⟨ob, 5, (Img.body b).map B8, cap⟩] := by
  have hM := Mem.start w0
  obtain ⟨nb, hnb⟩ : ∃ n, b.length = n := ⟨_, rfl⟩
  obtain ⟨ao, cap0, rfl, g1, g2, -⟩ := id hv
  rw [hnb] at hbl g1 hv ⊢
  replace hnb : Len b nb := Len.of hnb
  by_cases hs : nb < 32
  · have hsi : (nb : Int) < 32 := by omega
    rw [body_short hnb hs]
    clear hnb hv
    go_enter Tryd.func17, Tryd.ntmps17
    go_wp2_with fail
    go_ret
    exact ⟨none, 0, 0, rfl, rfl, by decide, hM.addNil 5⟩
  · have hsi : ¬ (nb : Int) < 32 := by omega
    rw [body_long hnb hs]
    obtain ⟨K, hK⟩ : ∃ K, K = nb - 32 := ⟨_, rfl⟩
    have he : (nb : Int) - 32 = (K : Int) := by omega
    have hKn : K ≤ nb := by omega
    rw [← hK]
    have hkl : Len (b.take K) K := Len.of (by rw [List.length_take, hnb.eq]; omega)
    obtain ⟨hS, hB⟩ := bytes_upto (P := Tryd.prog) hv (t := 23) (us_of rfl) (by exact elOne rfl) hKn
    generalize b.take K = R at *
    clear hK hs hv hnb
    replace hM := hM.addNil 5
    have hx := hB.src
    rw [hkl.eq] at hx
    go_enter Tryd.func17, Tryd.ntmps17
    go_wp2_with (first
      | ((with_reducible refine gL_slice (dst := some 10) ?_); refine ⟨_, hS, ?_⟩)
      | ((with_reducible refine gL_append_B (dst := some 11) hM ?_); refine ⟨_, _, none, 0, 0, 5, [], R, K, _, rfl, rfl, rfl, (us_of rfl), (el_of rfl), hx, (fun _ _ => .here _ _ _), rfl, hkl, (by decide), (by omega), ?_⟩; clear hx; intro ob1 cap1 _ hM2 h11 h12; rw [Nat.zero_add] at h11 ⊢; rw [List.nil_append] at hM2; clear hM; have hM := hM2; clear hM2))
    go_ret
    exact ⟨ob1, K, cap1, rfl, hkl, h12, hM⟩
set_option maxRecDepth 100000 in
set_option maxHeartbeats 4000000 in
theorem ref11_Body (w0 : World) (v : Value) (b : List UInt8) (hv : Bytes w0 v b) (hbl : b.length ≤ 140737488351232) :
    Calls Tryd.prog 18 #[v] w0 fun e w' => ∃ ob m cap, e = .returned (sl ob m cap) ∧ Len (Img.body b) m ∧ cap ≤ maxLen ∧ Mem [] w0 w' [⟨ob, 5, (Img.body b).map B8, cap⟩] := by
  have hM := Mem.start w0
  obtain ⟨nb, hnb⟩ : ∃ n, b.length = n := ⟨_, rfl⟩
  obtain ⟨ao, cap0, rfl, g1, g2, -⟩ := id hv
  rw [hnb] at hbl g1 hv ⊢
  replace hnb : Len b nb := Len.of hnb
  by_cases hs : nb < 32
  · have hsi : (nb : Int) < 32 := by omega
    rw [body_short hnb hs]
    clear hnb hv
    go_enter Tryd.func18, Tryd.ntmps18
    go_wp2_with fail
    go_ret
    exact ⟨none, 0, 0, rfl, rfl, by decide, hM.addNil 5⟩
  · have hsi : ¬ (nb : Int) < 32 := by omega
    rw [body_long hnb hs]
    obtain ⟨K, hK⟩ : ∃ K, K = nb - 32 := ⟨_, rfl⟩
    have he : (nb : Int) - 32 = (K : Int) := by omega
    have hKn : K ≤ nb := by omega
    rw [← hK]
    have hkl : Len (b.take K) K := Len.of (by rw [List.length_take, hnb.eq]; omega)
    obtain ⟨hS, hB⟩ := bytes_upto (P := Tryd.prog) hv (t := 23) (us_of rfl) (by exact elOne rfl) hKn
    generalize b.take K = R at *
    clear hK hs hv hnb
    go_enter Tryd.func18, Tryd.ntmps18
    go_wp2_with (first
      | ((with_reducible refine gL_buildEmpty (dst := some 7) hM ?_); refine ⟨_, _, _, (us_of rfl), (el_of rfl), ?_⟩; intro g73 _ hM2; clear hM; have hM := hM2; clear hM2)
      | ((with_reducible refine gL_slice (dst := some 13) ?_); refine ⟨_, hS, ?_⟩)
      | ((with_reducible refine gL_append_B (dst := some 14) hM ?_); have hx := (hM.bytes0 hB).src; rw [hkl.eq] at hx; refine ⟨_, _, some g73, 0, 0, 5, [], R, K, _, rfl, rfl, rfl, (us_of rfl), (el_of rfl), hx, (fun _ _ => .here _ _ _), rfl, hkl, (by decide), (by omega), ?_⟩; clear hx; intro ob1 cap1 _ hM2 h11 h12; rw [Nat.zero_add] at h11 ⊢; rw [List.nil_append] at hM2; clear hM; have hM := hM2; clear hM2))
    go_ret
    exact ⟨ob1, K, cap1, rfl, hkl, h12, hM⟩
set_option maxRecDepth 100000 in
set_option maxHeartbeats 4000000 in
theorem ref11_Same (w0 : World) (x : Img.Im) (p q : Value) (hp : Bytes w0 p x.pay) (hq : Bytes w0 q x.pay) (hT : Len x.tag 32) :
    Calls Tryd.prog 16 #[.agg (imC x p).toArray, .agg (imC x q).toArray] w0 fun e w' => e = .returned (.bool true) ∧ Below w0.heap.size w0 w' := by
  have hM := Mem.start w0
  have hC := imC_len hT p
  have hD := imC_len hT q
  obtain ⟨s, y, v, B, T⟩ := x
  simp only at hp hq hT
  unfold imC at hC hD ⊢
  simp only at hC hD ⊢
  have htp := fun (w : World) (L : List Blk) (g : Nat) (p : Value) (hM : Mem [] w0 w L) (h : ⟨some g, 27, ([.int .i64 s, .int .i64 y, .int .i64 v, p] : List Value) ++ T.map B8, 36⟩ ∈ L) => hM.loads_last (P := Tryd.prog) (ty := 25) (off := 4) h (ag_of rfl) rfl (hT.map B8)
  go_enter Tryd.func16, Tryd.ntmps16
  go_wp2_with (first
    | ((with_reducible refine gL_box (dst := some 2) hM ?_); refine ⟨_, _, _, rfl, rfl, hC, ?_⟩; intro gx _ hM2; clear hM; have hM := hM2; clear hM2)
    | ((with_reducible refine gL_box (dst := some 3) hM ?_); refine ⟨_, _, _, rfl, rfl, hD, ?_⟩; intro gy wB hM2; clear hM; have hM := hM2; clear hM2; have s1 := str_of (hM.bytes0 hp); have s2 := str_of (hM.bytes0 hq))
    | ((with_reducible refine gG_load (dst := some 35) ?_ ?_); (exact wanted_of rfl rfl rfl rfl rfl); refine ⟨_, _, rfl, htp _ _ _ _ hM (.tail _ (.head _)), ?_⟩)
    | ((with_reducible refine gG_load (dst := some 37) ?_ ?_); (exact wanted_of rfl rfl rfl rfl rfl); refine ⟨_, _, rfl, htp _ _ _ _ hM (.head _), ?_⟩)
    | go_skip | ((first | (with_reducible refine gL_load ?_) | ((with_reducible refine gG_load ?_ ?_); (exact wanted_of rfl rfl rfl rfl rfl))); refine ⟨_, _, rfl, (by (first | (assumption) | (exact hM.loads_B8 (by (repeat (first | exact .head _ | apply List.Mem.tail)); done) (on_of rfl) (by first | omega | (simp only [Len] at *; omega) | (simp; omega))) | (exact hM.loads_all (by (repeat (first | exact .head _ | apply List.Mem.tail)); done) (ag_of rfl) (by first | assumption | exact Len.map (by assumption) _ | rfl | exact Len.map (by rfl) _ | exact Len.of (by simp; done))) | (exact hM.loads_one (by (repeat (first | exact .head _ | apply List.Mem.tail)); done) (on_of rfl) rfl) | (exact hM.loads_W32 (by (repeat (first | exact .head _ | apply List.Mem.tail)); done) (on_of rfl) (by first | omega | (simp only [Len] at *; omega) | (simp; omega))) | (exact loads_cell (by assumption) (on_of rfl)))), ?_⟩) | ((with_reducible refine gL_store hM ?_); refine ⟨_, _, _, rfl, rfl, (by (first | (exact hM.stores_B8 (by first | exact (rfl : B8 _ = B8 _) | exact lit8 _ (by decide)) (by (repeat (first | exact .here _ _ _ | apply Has.there)); done) (on_of rfl) (by first | omega | (simp only [Len] at *; omega) | (simp; omega))) | (exact hM.stores_all (by (repeat (first | exact .here _ _ _ | apply Has.there)); done) (ag_of rfl) (by first | assumption | exact Len.map (by assumption) _ | rfl | exact Len.map (by rfl) _ | exact Len.of (by simp; done)) (by first | assumption | exact Len.map (by assumption) _ | rfl | exact Len.map (by rfl) _ | exact Len.of (by simp; done)) (by first | exact B8_one | exact W32_one | exact one_of_all rfl)) | (exact hM.stores_W32 rfl (by (repeat (first | exact .here _ _ _ | apply Has.there)); done) (on_of rfl) (by first | omega | (simp only [Len] at *; omega) | (simp; omega))) | (exact hM.stores_one (by (repeat (first | exact .here _ _ _ | apply Has.there)); done) (on_of rfl) (by first | omega | (simp only [Len] at *; omega) | (simp; omega)) rfl rfl))), ?_⟩; intro _ hM2; clear hM; have hM := hM2; clear hM2) | ((with_reducible refine gL_alloc hM ?_); refine ⟨_, _, (zr_of rfl), ?_⟩; intro _ _ hM2; clear hM; have hM := hM2; clear hM2) | ((with_reducible refine gL_box hM ?_); refine ⟨_, _, _, rfl, rfl, (by first | assumption | exact Len.map (by assumption) _ | rfl | exact Len.map (by rfl) _ | exact Len.of (by simp; done)), ?_⟩; intro _ _ hM2; clear hM; have hM := hM2; clear hM2) | ((with_reducible refine gL_build0 ?_); refine ⟨_, _, _, _, _, _, (zr_of rfl), (ua_of rfl), (ag_of rfl), (el_of rfl), ?_⟩) | ((with_reducible refine gL_buildBytes hM ?_); refine ⟨_, _, (us_of rfl), (el_of rfl), (by decide), (by decide), rfl, (by (repeat (first | exact EvB.nil | apply EvB.cons rfl (by first | exact (rfl : B8 _ = B8 _) | exact lit8 _ (by decide)))); done), ?_⟩; intro _ _ hM2; clear hM; have hM := hM2; clear hM2) | ((with_reducible refine gL_append_B hM ?_); refine ⟨_, _, _, _, _, _, _, _, _, _, rfl, rfl, (by first | exact (rfl : Value.slice (some ⟨_, 0, none⟩) _ _ = sl (some _) _ _) | exact (rfl : Value.slice none _ _ = sl none _ _) | rfl), (us_of rfl), (el_of rfl), (by first | exact hM.src (by (repeat (first | exact .head _ | apply List.Mem.tail)); done) | exact (hM.bytes0 (by assumption)).src), (fun _ _ => by (repeat (first | exact .here _ _ _ | apply Swap.there)); done), (by first | assumption | exact Len.map (by assumption) _ | rfl | exact Len.map (by rfl) _ | exact Len.of (by simp; done)), (by first | assumption | exact Len.map (by assumption) _ | rfl | exact Len.map (by rfl) _ | exact Len.of (by simp; done)), (by first | assumption | (simp [maxLen]; done) | omega | (simp [maxLen]; omega)), (by first | omega | (simp only [Len] at *; omega) | (simp; omega)), ?_⟩; intro _ _ _ hM2 _ _; clear hM; have hM := hM2; clear hM2) | ((first | (with_reducible refine gL_field ?_) | ((with_reducible refine gG_field ?_ ?_); (exact wanted_of rfl rfl rfl rfl rfl))); refine ⟨_, _, rfl, (by (first | (exact field_one (fb_of rfl) rfl) | (exact field_agg (fa_of rfl) rfl))), ?_⟩) | ((first | (with_reducible refine gL_eql ?_) | (with_reducible refine gL_neq ?_) | ((with_reducible refine gG_eql ?_ ?_); (exact wanted_of rfl rfl rfl rfl rfl)) | ((with_reducible refine gG_neq ?_ ?_); (exact wanted_of rfl rfl rfl rfl rfl))); refine ⟨_, _, _, rfl, rfl, (by first | exact hash_self _ hT), ?_⟩))
  go_ret
  exact ⟨rfl, hM.done⟩
end Go.Proofs.YtejmbkljnhnklaaDoor
namespace Go.Proofs.YtejmbkljnhnklaaDoor
open Go.RowKit Go.PK
theorem TypeLaid.mem {w0 w : World} {L : List Blk} (h : TypeLaid w0) (hM : Mem [] w0 w L) : TypeLaid w := by
  unfold TypeLaid at *
  rw [cell_below hM.done (by exact TypeLaid.lt h)]
  exact h
theorem adds4 (w : World) (a b c d : Obj) : Below w.heap.size w ((((w.alloc a).alloc b).alloc c).alloc d) :=
  (((((Below.refl w.heap.size w).alloc (Nat.le_refl _) a).alloc (by simp) b).alloc (by simp; omega) c).alloc (by simp; omega) d)
theorem as_w_m {w0 w : World} {L : List Blk} (hg : TypeLaid w0) (e : Addr) (t : Nat) (old : Value) (hM : Mem [] w0 w (⟨some t, 52, [old], 1⟩ :: L)) :
    Calls Tryd.prog 32 #[.iface 52 (.pointer (some e)), .iface 57 (.pointer (some ⟨t, 0, none⟩))] w fun ev w' => ev = .returned (.bool true) ∧ Mem [] w0 w' (⟨some t, 52, [.pointer (some e)], 1⟩ :: L) := by
  refine (as_w e ⟨t, 0, none⟩ old w (hg.mem hM) (hM.cell (.head _) rfl) (hM.free (.head _) 0)).mono ?_
  rintro ev w' ⟨rfl, rfl⟩
  exact ⟨rfl, (hM.adds (adds4 _ _ _ _ _)).setCell (off := 0) (.here _ _ _) (by simp)⟩
theorem as_n_m {w0 w : World} {L : List Blk} (hg : TypeLaid w0) (e : Addr) (n : Int) (t : Nat) (old : Value) (hM : Mem [] w0 w (⟨some t, 28, [old], 1⟩ :: L)) (he : w.cell? e = some (.int .i64 n)) :
    Calls Tryd.prog 32 #[.iface 52 (.pointer (some e)), .iface 58 (.pointer (some ⟨t, 0, none⟩))] w fun ev w' => ev = .returned (.bool true) ∧ Mem [] w0 w' (⟨some t, 28, [.int .i64 n], 1⟩ :: L) := by
  refine (as_n e n ⟨t, 0, none⟩ old w (hg.mem hM) (hM.cell (.head _) rfl) (hM.free (.head _) 0) he).mono ?_
  rintro ev w' ⟨rfl, rfl⟩
  exact ⟨rfl, (hM.adds (adds4 _ _ _ _ _)).setCell (off := 0) (.here _ _ _) (by simp)⟩
set_option maxRecDepth 100000 in
theorem told_nil (w0 : World) : Calls Tryd.prog 15 #[.nilIface] w0 fun e w' => e = .returned (.tuple #[.agg (wrongC 0 0).toArray, .bool true]) ∧ Below w0.heap.size w0 w' := by
  have hM := Mem.start w0
  have hzw : Zr Tryd.prog 39 (wrongC 0 0) 2 := (zr_of rfl)
  go_enter Tryd.func15, Tryd.ntmps15
  go_wp2_with (first
    | ((with_reducible refine gL_alloc (dst := some 2) hM ?_); refine ⟨_, _, hzw, ?_⟩; intro gr _ hM2; clear hM; have hM := hM2; clear hM2)
    | go_skip | ((first | (with_reducible refine gL_load ?_) | ((with_reducible refine gG_load ?_ ?_); (exact wanted_of rfl rfl rfl rfl rfl))); refine ⟨_, _, rfl, (by (first | (assumption) | (exact hM.loads_B8 (by (repeat (first | exact .head _ | apply List.Mem.tail)); done) (on_of rfl) (by first | omega | (simp only [Len] at *; omega) | (simp; omega))) | (exact hM.loads_all (by (repeat (first | exact .head _ | apply List.Mem.tail)); done) (ag_of rfl) (by first | assumption | exact Len.map (by assumption) _ | rfl | exact Len.map (by rfl) _ | exact Len.of (by simp; done))) | (exact hM.loads_one (by (repeat (first | exact .head _ | apply List.Mem.tail)); done) (on_of rfl) rfl) | (exact hM.loads_W32 (by (repeat (first | exact .head _ | apply List.Mem.tail)); done) (on_of rfl) (by first | omega | (simp only [Len] at *; omega) | (simp; omega))) | (exact loads_cell (by assumption) (on_of rfl)))), ?_⟩) | ((with_reducible refine gL_store hM ?_); refine ⟨_, _, _, rfl, rfl, (by (first | (exact hM.stores_B8 (by first | exact (rfl : B8 _ = B8 _) | exact lit8 _ (by decide)) (by (repeat (first | exact .here _ _ _ | apply Has.there)); done) (on_of rfl) (by first | omega | (simp only [Len] at *; omega) | (simp; omega))) | (exact hM.stores_all (by (repeat (first | exact .here _ _ _ | apply Has.there)); done) (ag_of rfl) (by first | assumption | exact Len.map (by assumption) _ | rfl | exact Len.map (by rfl) _ | exact Len.of (by simp; done)) (by first | assumption | exact Len.map (by assumption) _ | rfl | exact Len.map (by rfl) _ | exact Len.of (by simp; done)) (by first | exact B8_one | exact W32_one | exact one_of_all rfl)) | (exact hM.stores_W32 rfl (by (repeat (first | exact .here _ _ _ | apply Has.there)); done) (on_of rfl) (by first | omega | (simp only [Len] at *; omega) | (simp; omega))) | (exact hM.stores_one (by (repeat (first | exact .here _ _ _ | apply Has.there)); done) (on_of rfl) (by first | omega | (simp only [Len] at *; omega) | (simp; omega)) rfl rfl))), ?_⟩; intro _ hM2; clear hM; have hM := hM2; clear hM2) | ((with_reducible refine gL_alloc hM ?_); refine ⟨_, _, (zr_of rfl), ?_⟩; intro _ _ hM2; clear hM; have hM := hM2; clear hM2) | ((with_reducible refine gL_box hM ?_); refine ⟨_, _, _, rfl, rfl, (by first | assumption | exact Len.map (by assumption) _ | rfl | exact Len.map (by rfl) _ | exact Len.of (by simp; done)), ?_⟩; intro _ _ hM2; clear hM; have hM := hM2; clear hM2) | ((with_reducible refine gL_build0 ?_); refine ⟨_, _, _, _, _, _, (zr_of rfl), (ua_of rfl), (ag_of rfl), (el_of rfl), ?_⟩) | ((with_reducible refine gL_buildBytes hM ?_); refine ⟨_, _, (us_of rfl), (el_of rfl), (by decide), (by decide), rfl, (by (repeat (first | exact EvB.nil | apply EvB.cons rfl (by first | exact (rfl : B8 _ = B8 _) | exact lit8 _ (by decide)))); done), ?_⟩; intro _ _ hM2; clear hM; have hM := hM2; clear hM2) | ((with_reducible refine gL_append_B hM ?_); refine ⟨_, _, _, _, _, _, _, _, _, _, rfl, rfl, (by first | exact (rfl : Value.slice (some ⟨_, 0, none⟩) _ _ = sl (some _) _ _) | exact (rfl : Value.slice none _ _ = sl none _ _) | rfl), (us_of rfl), (el_of rfl), (by first | exact hM.src (by (repeat (first | exact .head _ | apply List.Mem.tail)); done) | exact (hM.bytes0 (by assumption)).src), (fun _ _ => by (repeat (first | exact .here _ _ _ | apply Swap.there)); done), (by first | assumption | exact Len.map (by assumption) _ | rfl | exact Len.map (by rfl) _ | exact Len.of (by simp; done)), (by first | assumption | exact Len.map (by assumption) _ | rfl | exact Len.map (by rfl) _ | exact Len.of (by simp; done)), (by first | assumption | (simp [maxLen]; done) | omega | (simp [maxLen]; omega)), (by first | omega | (simp only [Len] at *; omega) | (simp; omega)), ?_⟩; intro _ _ _ hM2 _ _; clear hM; have hM := hM2; clear hM2) | ((first | (with_reducible refine gL_field ?_) | ((with_reducible refine gG_field ?_ ?_); (exact wanted_of rfl rfl rfl rfl rfl))); refine ⟨_, _, rfl, (by (first | (exact field_one (fb_of rfl) rfl) | (exact field_agg (fa_of rfl) rfl))), ?_⟩))
  have hM3 : Mem [] w0 _ (⟨some gr, 39, wrongC 0 0, 2⟩ :: []) := hM
  exact hM3.ret_cell_tmp rfl rfl rfl rfl (.head _) (ag_of rfl) rfl ⟨rfl, hM3.done⟩
set_option maxRecDepth 100000 in
set_option maxHeartbeats 4000000 in
theorem told_err (w0 : World) (hg : TypeLaid w0) (g ec ek : Nat) (hR : Row w0 g 53 (wrongC ec ek)) (hc : ¬ ec = 0) :
    Calls Tryd.prog 15 #[.iface 52 (.pointer (some ⟨g, 0, none⟩))] w0 fun e w' => e = .returned (.tuple #[.agg (wrongC ec ek).toArray, .bool true]) ∧ Below w0.heap.size w0 w' := by
  have hM := Mem.start w0
  have hzw : Zr Tryd.prog 39 (wrongC 0 0) 2 := (zr_of rfl)
  have hci : ¬ (ec : Int) = 0 := by omega
  have hb0 : ∀ (w : World) (n m : Int), (Instr.build 39 #[(0, .int .i64 n), (1, .int .i64 m)]).run Tryd.prog w = .ok (.agg #[.int .i64 n, .int .i64 m]) w := fun w n m => by kernel_rfl
  have hrow : ∀ {w : World} {L : List Blk}, Mem [] w0 w L → w.cell? ⟨g, 0, none⟩ = some (.int .i64 (ec : Int)) ∧ w.cell? ⟨g, 1, none⟩ = some (.int .i64 (ek : Int)) := fun hM => by
    have h := hM.row hR (by simp)
    exact ⟨by rw [cell_row h]; rfl, by rw [cell_row h]; rfl⟩
  go_enter Tryd.func15, Tryd.ntmps15
  go_wp2_with (first
    | ((with_reducible refine gL_alloc (dst := some 2) hM ?_); refine ⟨_, _, hzw, ?_⟩; intro gr _ hM2; clear hM; have hM := hM2; clear hM2)
    | ((with_reducible refine gL_alloc (dst := some 4) hM ?_); refine ⟨_, _, (zr_of rfl), ?_⟩; intro gp _ hM2; clear hM; have hM := hM2; clear hM2)
    | ((with_reducible refine gL_alloc (dst := some 5) hM ?_); refine ⟨_, _, (zr_of rfl), ?_⟩; intro gn wA hM2; clear hM; have hM := hM2; clear hM2))
  have hMp : Mem [] w0 wA.drew (⟨some gp, 52, [.pointer none], 1⟩ :: ⟨some gn, 28, [.int .i64 0], 1⟩ :: ⟨some gr, 39, wrongC 0 0, 2⟩ :: []) := hM.drew.perm (.swap _ _ _)
  have h1 := as_w_m hg ⟨g, 0, none⟩ gp (.pointer none) hMp
  clear hM
  go_region_with (first
    | (go_at_call 32; (with_reducible refine h1.mono ?_); rintro _ w1 ⟨rfl, hM1⟩; clear h1; have c4 : w1.cell? ⟨gp, 0, none⟩ = some (.pointer (some ⟨g, 0, none⟩)) := hM1.cell (.head _) rfl; have hMq := hM1.perm (.swap _ _ _); have hw := hrow hM1; have hn := as_n_m hg ⟨g, 0, none⟩ (ec : Int) gn (.int .i64 0) hMq hw.1; clear hM1 hMp)
    | (go_at_call 32; (with_reducible refine hn.mono ?_); rintro _ w2 ⟨rfl, hM⟩; clear hn hMq c4 hw; have c5 : w2.cell? ⟨gn, 0, none⟩ = some (.int .i64 (ec : Int)) := hM.cell (.head _) rfl; have c4 : w2.cell? ⟨gp, 0, none⟩ = some (.pointer (some ⟨g, 0, none⟩)) := hM.cell (.tail _ (.head _)) rfl; have hw3 := (hrow hM).1; have hw4 := (hrow hM).2))
  all_goals
    have hc4 : ∀ w', Adds w2 w' → w'.cell? ⟨gp, 0, none⟩ = some (.pointer (some ⟨g, 0, none⟩)) := fun w' hb => (hM.adds hb).cell (.tail _ (.head _)) rfl
    clear c5 c4 hw3 hw4
    go_wp2_with fail
    try simp only [Act.put, List.setIfInBounds_toArray]
    refine wp_region_tail 9 (by decide) (fun c vals => ⟨#[c 0, c 1, c 2, c 3, (Value.pointer (some ⟨gp, 0, none⟩) : Value), c 5, c 6, c 7, c 8, c 9, c 10, c 11, c 12, c 13, c 14, c 15, c 16, c 17, c 18, c 19, c 20, c 21, c 22, c 23, c 24, c 25, c 26, c 27, c 28, c 29, c 30, c 31, c 32, c 33, c 34, c 35, c 36, c 37, c 38, vals 0, vals 1, vals 2, vals 3, vals 4, vals 5, vals 6, vals 7, vals 8], []⟩) (fun t => [_, _, _, _, undef, _, _, _, _, _, _, _, _, _, _, _, _, _, _, _, _, _, _, _, _, _, _, _, _, _, _, _, _, _, _, _, _, _, _, undef, undef, undef, undef, undef, undef, undef, undef, undef].getD t undef) (fun i => [_, _, _, _, _, _, _, _, _].getD i undef) (by kernel_rfl)
      [[], [0], [0, 1], [0, 1, 2], [], [4], [4, 5], [4, 5, 6], [0, 1, 2, 3, 4, 5, 6, 7], [0, 1, 2, 3, 4, 5, 6, 7, 8], [0, 1, 2, 3, 4, 5, 6, 7, 8, 9]] (by kernel_rfl) (by kernel_rfl) (fun _ => True) trivial
      [fun x _ => x = (Value.pointer (some ⟨g, 0, none⟩) : Value),
       fun x _ => x = (Value.pointer (some ⟨g, 0, none⟩) : Value),
       fun x _ => x = (Value.pointer (some ⟨g, 0, none⟩) : Value),
       fun x _ => x = (Value.int .i64 (ec : Int) : Value),
       fun x _ => x = (Value.pointer (some ⟨g, 0, none⟩) : Value),
       fun x _ => x = (Value.pointer (some ⟨g, 0, none⟩) : Value),
       fun x _ => x = (Value.pointer (some ⟨g, 1, none⟩) : Value),
       fun x _ => x = (Value.int .i64 (ek : Int) : Value),
       fun x _ => x = (Value.agg #[Value.int .i64 (ec : Int), Value.int .i64 (ek : Int)] : Value)]
      ⟨fun _ _ _ h _ => h, fun _ _ _ h _ => h, fun _ _ _ h _ => h, fun _ _ _ h _ => h, fun _ _ _ h _ => h, fun _ _ _ h _ => h, fun _ _ _ h _ => h, fun _ _ _ h _ => h, fun _ _ _ h _ => h, trivial⟩ []
      ⟨?_, ?_, ?_, ?_, ?_, ?_, ?_, ?_, ?_, trivial⟩ ?_
    · refine showA_op 0 (by intro _ _ _; kernel_rfl) rfl rfl (fun c vals w hC hD => ?_)
      clear hD
      refine makes1 (x := .tmp 4) (X := Value.pointer (some ⟨gp, 0, none⟩)) (by kernel_rfl : _ = (Value.pointer (some ⟨gp, 0, none⟩) : Value)) (fun ρ rc rf q4 => ?_)
      exact makes_load (loads_cell (hc4 _ hC) (on_of rfl)) rfl q4 ⟨Adds.refl _, rfl⟩
    · refine showA_op 1 (by intro _ _ _; kernel_rfl) rfl rfl (fun c vals w hC hD => ?_)
      have h0 : vals 0 = .pointer (some ⟨g, 0, none⟩) := hD 0 rfl
      clear hD
      refine makes1 (x := .tmp 39) (X := Value.pointer (some ⟨g, 0, none⟩)) ((by kernel_rfl : _ = vals 0).trans h0) (fun ρ rc rf q39 => ?_)
      clear h0
      (refine makes_value (v := .pointer (some ⟨g, 0, none⟩)) ?_ ⟨Adds.refl _, rfl⟩; go_simp)
    · refine showA_op 2 (by intro _ _ _; kernel_rfl) rfl rfl (fun c vals w hC hD => ?_)
      have h1 : vals 1 = .pointer (some ⟨g, 0, none⟩) := hD 1 rfl
      clear hD
      refine makes1 (x := .tmp 40) (X := Value.pointer (some ⟨g, 0, none⟩)) ((by kernel_rfl : _ = vals 1).trans h1) (fun ρ rc rf q40 => ?_)
      clear h1
      (refine makes_value (v := .pointer (some ⟨g, 0, none⟩)) ?_ ⟨Adds.refl _, rfl⟩; go_simp)
    · refine showA_op 3 (by intro _ _ _; kernel_rfl) rfl rfl (fun c vals w hC hD => ?_)
      have h2 : vals 2 = .pointer (some ⟨g, 0, none⟩) := hD 2 rfl
      clear hD
      refine makes1 (x := .tmp 41) (X := Value.pointer (some ⟨g, 0, none⟩)) ((by kernel_rfl : _ = vals 2).trans h2) (fun ρ rc rf q41 => ?_)
      clear h2
      exact makes_load (loads_cell (hrow (hM.adds hC)).1 (on_of rfl)) rfl q41 ⟨Adds.refl _, rfl⟩
    · refine showA_op 4 (by intro _ _ _; kernel_rfl) rfl rfl (fun c vals w hC hD => ?_)
      clear hD
      refine makes1 (x := .tmp 4) (X := Value.pointer (some ⟨gp, 0, none⟩)) (by kernel_rfl : _ = (Value.pointer (some ⟨gp, 0, none⟩) : Value)) (fun ρ rc rf q4 => ?_)
      exact makes_load (loads_cell (hc4 _ hC) (on_of rfl)) rfl q4 ⟨Adds.refl _, rfl⟩
    · refine showA_op 5 (by intro _ _ _; kernel_rfl) rfl rfl (fun c vals w hC hD => ?_)
      have h4 : vals 4 = .pointer (some ⟨g, 0, none⟩) := hD 4 rfl
      clear hD
      refine makes1 (x := .tmp 43) (X := Value.pointer (some ⟨g, 0, none⟩)) ((by kernel_rfl : _ = vals 4).trans h4) (fun ρ rc rf q43 => ?_)
      clear h4
      (refine makes_value (v := .pointer (some ⟨g, 0, none⟩)) ?_ ⟨Adds.refl _, rfl⟩; go_simp)
    · refine showA_op 6 (by intro _ _ _; kernel_rfl) rfl rfl (fun c vals w hC hD => ?_)
      have h5 : vals 5 = .pointer (some ⟨g, 0, none⟩) := hD 5 rfl
      clear hD
      refine makes1 (x := .tmp 44) (X := Value.pointer (some ⟨g, 0, none⟩)) ((by kernel_rfl : _ = vals 5).trans h5) (fun ρ rc rf q44 => ?_)
      clear h5
      (refine makes_value (v := .pointer (some ⟨g, 1, none⟩)) ?_ ⟨Adds.refl _, rfl⟩; go_simp)
    · refine showA_op 7 (by intro _ _ _; kernel_rfl) rfl rfl (fun c vals w hC hD => ?_)
      have h6 : vals 6 = .pointer (some ⟨g, 1, none⟩) := hD 6 rfl
      clear hD
      refine makes1 (x := .tmp 45) (X := Value.pointer (some ⟨g, 1, none⟩)) ((by kernel_rfl : _ = vals 6).trans h6) (fun ρ rc rf q45 => ?_)
      clear h6
      exact makes_load (loads_cell (hrow (hM.adds hC)).2 (on_of rfl)) rfl q45 ⟨Adds.refl _, rfl⟩
    · refine showA_op 8 (by intro _ _ _; kernel_rfl) rfl rfl (fun c vals w hC hD => ?_)
      have h3 : vals 3 = .int .i64 (ec : Int) := hD 3 rfl
      have h7 : vals 7 = .int .i64 (ek : Int) := hD 7 rfl
      clear hD
      refine makes2 (x := .tmp 42) (X := Value.int .i64 (ec : Int)) (y := .tmp 46) (Y := Value.int .i64 (ek : Int)) ((by kernel_rfl : _ = vals 3).trans h3) ((by kernel_rfl : _ = vals 7).trans h7) (fun ρ rc rf q42 q46 => ?_)
      clear h3 h7
      exact makes_build1 (fun w => hb0 w _ _) rfl (by simp only [List.map_cons, List.map_nil]; rw [q42, q46]) ⟨Adds.refl _, rfl⟩
    intro vals w' hC hΦ hne
    have h8 : vals 8 = .agg #[.int .i64 (ec : Int), .int .i64 (ek : Int)] := hΦ 8 (by decide)
    clear hΦ hne
    simp only [List.getD_eq_getElem?_getD, List.getElem?_cons_zero, List.getElem?_cons_succ, Option.getD_some, List.drop_succ_cons, List.drop_zero]
    simp only [h8]
    clear h8
    try simp only [tuple_undef]
    replace hM := hM.adds hC
    clear hC hc4
    go_wp2_with (first | go_skip | ((first | (with_reducible refine gL_load ?_) | ((with_reducible refine gG_load ?_ ?_); (exact wanted_of rfl rfl rfl rfl rfl))); refine ⟨_, _, rfl, (by (first | (assumption) | (exact hM.loads_B8 (by (repeat (first | exact .head _ | apply List.Mem.tail)); done) (on_of rfl) (by first | omega | (simp only [Len] at *; omega) | (simp; omega))) | (exact hM.loads_all (by (repeat (first | exact .head _ | apply List.Mem.tail)); done) (ag_of rfl) (by first | assumption | exact Len.map (by assumption) _ | rfl | exact Len.map (by rfl) _ | exact Len.of (by simp; done))) | (exact hM.loads_one (by (repeat (first | exact .head _ | apply List.Mem.tail)); done) (on_of rfl) rfl) | (exact hM.loads_W32 (by (repeat (first | exact .head _ | apply List.Mem.tail)); done) (on_of rfl) (by first | omega | (simp only [Len] at *; omega) | (simp; omega))) | (exact loads_cell (by assumption) (on_of rfl)))), ?_⟩) | ((with_reducible refine gL_store hM ?_); refine ⟨_, _, _, rfl, rfl, (by (first | (exact hM.stores_B8 (by first | exact (rfl : B8 _ = B8 _) | exact lit8 _ (by decide)) (by (repeat (first | exact .here _ _ _ | apply Has.there)); done) (on_of rfl) (by first | omega | (simp only [Len] at *; omega) | (simp; omega))) | (exact hM.stores_all (by (repeat (first | exact .here _ _ _ | apply Has.there)); done) (ag_of rfl) (by first | assumption | exact Len.map (by assumption) _ | rfl | exact Len.map (by rfl) _ | exact Len.of (by simp; done)) (by first | assumption | exact Len.map (by assumption) _ | rfl | exact Len.map (by rfl) _ | exact Len.of (by simp; done)) (by first | exact B8_one | exact W32_one | exact one_of_all rfl)) | (exact hM.stores_W32 rfl (by (repeat (first | exact .here _ _ _ | apply Has.there)); done) (on_of rfl) (by first | omega | (simp only [Len] at *; omega) | (simp; omega))) | (exact hM.stores_one (by (repeat (first | exact .here _ _ _ | apply Has.there)); done) (on_of rfl) (by first | omega | (simp only [Len] at *; omega) | (simp; omega)) rfl rfl))), ?_⟩; intro _ hM2; clear hM; have hM := hM2; clear hM2) | ((with_reducible refine gL_alloc hM ?_); refine ⟨_, _, (zr_of rfl), ?_⟩; intro _ _ hM2; clear hM; have hM := hM2; clear hM2) | ((with_reducible refine gL_box hM ?_); refine ⟨_, _, _, rfl, rfl, (by first | assumption | exact Len.map (by assumption) _ | rfl | exact Len.map (by rfl) _ | exact Len.of (by simp; done)), ?_⟩; intro _ _ hM2; clear hM; have hM := hM2; clear hM2) | ((with_reducible refine gL_build0 ?_); refine ⟨_, _, _, _, _, _, (zr_of rfl), (ua_of rfl), (ag_of rfl), (el_of rfl), ?_⟩) | ((with_reducible refine gL_buildBytes hM ?_); refine ⟨_, _, (us_of rfl), (el_of rfl), (by decide), (by decide), rfl, (by (repeat (first | exact EvB.nil | apply EvB.cons rfl (by first | exact (rfl : B8 _ = B8 _) | exact lit8 _ (by decide)))); done), ?_⟩; intro _ _ hM2; clear hM; have hM := hM2; clear hM2) | ((with_reducible refine gL_append_B hM ?_); refine ⟨_, _, _, _, _, _, _, _, _, _, rfl, rfl, (by first | exact (rfl : Value.slice (some ⟨_, 0, none⟩) _ _ = sl (some _) _ _) | exact (rfl : Value.slice none _ _ = sl none _ _) | rfl), (us_of rfl), (el_of rfl), (by first | exact hM.src (by (repeat (first | exact .head _ | apply List.Mem.tail)); done) | exact (hM.bytes0 (by assumption)).src), (fun _ _ => by (repeat (first | exact .here _ _ _ | apply Swap.there)); done), (by first | assumption | exact Len.map (by assumption) _ | rfl | exact Len.map (by rfl) _ | exact Len.of (by simp; done)), (by first | assumption | exact Len.map (by assumption) _ | rfl | exact Len.map (by rfl) _ | exact Len.of (by simp; done)), (by first | assumption | (simp [maxLen]; done) | omega | (simp [maxLen]; omega)), (by first | omega | (simp only [Len] at *; omega) | (simp; omega)), ?_⟩; intro _ _ _ hM2 _ _; clear hM; have hM := hM2; clear hM2) | ((first | (with_reducible refine gL_field ?_) | ((with_reducible refine gG_field ?_ ?_); (exact wanted_of rfl rfl rfl rfl rfl))); refine ⟨_, _, rfl, (by (first | (exact field_one (fb_of rfl) rfl) | (exact field_agg (fa_of rfl) rfl))), ?_⟩))
    have hM3 : Mem [] w0 _ (⟨some gn, 28, [.int .i64 (ec : Int)], 1⟩ :: ⟨some gp, 52, [.pointer (some ⟨g, 0, none⟩)], 1⟩ :: ⟨some gr, 39, wrongC ec ek, 2⟩ :: []) := hM
    exact hM3.ret_cell_tmp rfl rfl rfl rfl (.tail _ (.tail _ (.head _))) (ag_of rfl) rfl ⟨rfl, hM3.done⟩
end Go.Proofs.YtejmbkljnhnklaaDoor
namespace Go.Proofs.YtejmbkljnhnklaaDoor
open Go.RowKit Go.PK
theorem wrong_self (c k : Nat) : EqTo Tryd.prog 39 (wrongC c k).toArray (wrongC c k).toArray true := by
  refine ⟨by kernel_rfl, fun w => ?_⟩
  show (Op.equalIn (9999 + 1) 39 (.agg #[.int .i64 (c : Int), .int .i64 (k : Int)]) (.agg #[.int .i64 (c : Int), .int .i64 (k : Int)])).run Tryd.prog w = _
  rw [run_equalIn_struct w 9999 39 _ _ (by kernel_rfl) (by kernel_rfl)]
  go_simp
def wake : Img.Im := ⟨1, 2, 258, [170], List.replicate 32 0⟩
theorem wake_may : Img.may wake = 0 := by decide
theorem wake_cover : Img.cover wake = [80, 67, 85, 76, 1, 1, 2, 0, 2, 1, 0, 0, 1, 0, 0, 0, 170] := by decide
theorem wake_nil : Img.parse [] = (Img.im0, (6, 0)) := by
  rw [parse_first (e := (6, 0)) (by decide) (by rfl)]
set_option maxRecDepth 100000 in
set_option maxHeartbeats 4000000 in
theorem law11_awake (w0 : World) (hg : TypeLaid w0) : Calls Tryd.prog 9 #[] w0 fun e w' => e = .returned (.bool true) ∧ Below w0.heap.size w0 w' := by
  have hM := Mem.start w0
  obtain ⟨T, hTT⟩ : ∃ T, Mac.tag [] (Img.cover wake) = T := ⟨_, rfl⟩
  have hT2 : Len T 32 := by rw [← hTT]; exact Len.of (Mac.tag_len _ _)
  have hmk := make_yes wake_may hTT
  have hpm : Img.parse (Img.cover wake ++ T) = (⟨1, 2, 258, [170], T⟩, (0, 0)) := Img.parse_made wake_may hT2.eq
  have hbl : Len (Img.cover wake ++ T) 49 := Len.of (by rw [List.length_append, wake_cover, hT2.eq]; rfl)
  have hb8 : gb (Img.cover wake ++ T) 8 = 2 := by rw [wake_cover]; rfl
  have hb9 : gb (Img.cover wake ++ T) 9 = 1 := by rw [wake_cover]; rfl
  have hbd : Len (Img.body (Img.cover wake ++ T)) 17 := Len.of (by rw [body_long hbl (by decide), List.length_take, hbl.eq]; rfl)
  have hmake : ∀ w p, Bytes w p [170] → _ := fun w p h => image_Make w (.slice none 0 0) [] (Bytes.nil w) (by decide) wake p h (Len.rep 32 0)
  rw [hmk] at hmake
  have hzC := imC_len (x := Img.im0) (Len.rep 32 0) (.slice none 0 0)
  have hz := im0_zero
  have hbld : ∀ (w : World) (ao : Option Addr) (n c : Nat), (Instr.build 27 #[(0, .int .i64 1), (1, .int .i64 2), (2, .int .i64 258), (3, .slice ao n c)]).run Tryd.prog w = .ok (.agg (imC wake (.slice ao n c)).toArray) w := fun w ao n c => by kernel_rfl
  obtain ⟨B, hB⟩ : ∃ B, B = Img.cover wake ++ T := ⟨_, rfl⟩
  rw [← hB] at hpm hbl hb8 hb9 hbd hmake
  clear hB hmk hTT
  have hC1o : ∀ p, p.oneCell' = true → ∀ v ∈ imC ⟨1, 2, 258, [170], T⟩ p, v.oneCell' = true := fun p hp v hv => by
    rcases List.mem_append.1 hv with h | h
    · simp at h
      rcases h with rfl | rfl | rfl | rfl
      · rfl
      · rfl
      · rfl
      · exact hp
    · obtain ⟨c, _, rfl⟩ := List.mem_map.1 h
      rfl
  go_enter Tryd.func9, Tryd.ntmps9
  go_wp2_with (first
    | ((with_reducible refine gL_buildBytes (dst := some 10) hM ?_); refine ⟨_, _, (us_of rfl), (el_of rfl), (by decide), (by decide), rfl, (by (repeat (first | exact EvB.nil | apply EvB.cons rfl (by first | exact (rfl : B8 _ = B8 _) | exact lit8 _ (by decide)))); done), ?_⟩; intro g10 _ hM2; clear hM; have hM := hM2; clear hM2))
  refine (hmake _ _ (hM.whole (n := 1) (.head _) rfl (by decide))).mono ?_
  rintro _ w1 ⟨ob, m, cap, rfl, hm, hc, hM1⟩
  have hm49 : m = 49 := hm.eq.symm.trans hbl.eq
  subst hm49
  obtain ⟨gB, rfl⟩ := hM1.some_of (.head _) (n := 49) (Len.of (by rw [List.length_map]; exact hbl.eq)) (by decide)
  replace hM := hM.addMem hM1
  simp only [List.cons_append, List.nil_append] at hM
  clear hM1 hmake
  have hC1l : ∀ p, Len (imC ⟨1, 2, 258, [170], T⟩ p) 36 := fun p => imC_len (x := ⟨1, 2, 258, [170], T⟩) hT2 p
  go_wp2_with fail
  have hpz := image_Parse w1 (.slice (some ⟨gB, 0, none⟩) 49 cap) B (hM.whole (.head _) hbl (by simpa [maxLen] using hc)) (by rw [hbl.eq]; decide)
  refine hpz.mono ?_
  clear hpz
  rintro _ w2 (⟨x, g1, o1, cap1, n1, hx, -, -, rfl, -, -, hc1, -, -, hM1⟩ | ⟨ec, ek, g1, hx, hne, rfl, hM1⟩)
  case inr =>
    have h0 : (0 : Nat) = ec := congrArg (fun z => z.2.1) (hpm.symm.trans hx)
    exact absurd h0.symm hne
  obtain rfl : x = ⟨1, 2, 258, [170], T⟩ := congrArg Prod.fst (hx.symm.trans hpm)
  clear hx
  replace hM := hM.addMem hM1
  simp only [List.cons_append, List.nil_append] at hM
  clear hM1
  go_wp2_with (first
    | ((with_reducible refine gL_alloc (dst := some 3) hM ?_); refine ⟨_, _, hz, ?_⟩; intro g3 _ hM2; clear hM; have hM := hM2; clear hM2)
    | ((with_reducible refine gL_store (x := .tmp 3) hM ?_); refine ⟨_, _, _, rfl, rfl, hM.stores_all (.here _ _ _) (ag_of rfl) (hC1l _) hzC (hC1o _ rfl), ?_⟩; intro _ hM2; clear hM; have hM := hM2; clear hM2))
  have hpn := fun w => image_Parse w (.slice none 0 0) [] (Bytes.nil w) (by decide)
  refine (hpn _).mono ?_
  clear hpn
  rintro _ w3 (⟨x, g2, o2, cap2, n2, hx, -, -, rfl, -, -, hc2, -, -, hM1⟩ | ⟨ec, ek, g2, hx, hne, rfl, hM1⟩)
  case inl =>
    have h0 : (6 : Nat) = 0 := congrArg (fun z => z.2.1) (wake_nil.symm.trans hx)
    cases h0
  have hck : (ec, ek) = (6, 0) := congrArg Prod.snd (hx.symm.trans wake_nil)
  cases hck
  clear hx hne
  replace hM := hM.addMem hM1
  simp only [List.cons_append, List.nil_append] at hM
  clear hM1
  go_wp2_with (first
    | ((with_reducible refine gL_alloc (dst := some 5) hM ?_); refine ⟨_, _, hz, ?_⟩; intro g5 _ hM2; clear hM; have hM := hM2; clear hM2)
    | ((with_reducible refine gL_store (x := .tmp 5) hM ?_); refine ⟨_, _, _, rfl, rfl, hM.stores_all (.here _ _ _) (ag_of rfl) hzC hzC (one_of_all rfl), ?_⟩; intro _ hM2; clear hM; have hM := hM2; clear hM2))
  refine (told_err _ (hg.mem hM) g2 6 0 (hM.rowN (.tail _ (.head _)) rfl) (by decide)).mono ?_
  rintro _ w4 ⟨rfl, B1⟩
  replace hM := hM.adds B1
  clear B1
  go_wp2_with (first
    | ((with_reducible refine gL_alloc (dst := some 7) hM ?_); refine ⟨_, wrongC 0 0, _, (zr_of rfl), ?_⟩; intro g7 _ hM2; clear hM; have hM := hM2; clear hM2)
    | ((with_reducible refine gL_store (x := .tmp 7) hM ?_); refine ⟨_, _, _, rfl, rfl, hM.stores_all (C1 := wrongC 6 0) (.here _ _ _) (ag_of rfl) rfl rfl (one_of_all rfl), ?_⟩; intro _ hM2; clear hM; have hM := hM2; clear hM2)
    | ((with_reducible refine gG_load (dst := some 43) ?_ ?_); (exact wanted_of rfl rfl rfl rfl rfl); refine ⟨_, _, rfl, (by have h := hM.loads_B8 (P := Tryd.prog) (ty := 5) (g := gB) (off := 8) (l := B) (by (repeat (first | exact .head _ | apply List.Mem.tail)); done) (on_of rfl) (by rw [hbl.eq]; decide); rw [hb8] at h; exact h), ?_⟩)
    | ((with_reducible refine gG_load (dst := some 49) ?_ ?_); (exact wanted_of rfl rfl rfl rfl rfl); refine ⟨_, _, rfl, (by have h := hM.loads_B8 (P := Tryd.prog) (ty := 5) (g := gB) (off := 9) (l := B) (by (repeat (first | exact .head _ | apply List.Mem.tail)); done) (on_of rfl) (by rw [hbl.eq]; decide); rw [hb9] at h; exact h), ?_⟩)
    | go_skip | ((first | (with_reducible refine gL_load ?_) | ((with_reducible refine gG_load ?_ ?_); (exact wanted_of rfl rfl rfl rfl rfl))); refine ⟨_, _, rfl, (by (first | (assumption) | (exact hM.loads_B8 (by (repeat (first | exact .head _ | apply List.Mem.tail)); done) (on_of rfl) (by first | omega | (simp only [Len] at *; omega) | (simp; omega))) | (exact hM.loads_all (by (repeat (first | exact .head _ | apply List.Mem.tail)); done) (ag_of rfl) (by first | assumption | exact Len.map (by assumption) _ | rfl | exact Len.map (by rfl) _ | exact Len.of (by simp; done))) | (exact hM.loads_one (by (repeat (first | exact .head _ | apply List.Mem.tail)); done) (on_of rfl) rfl) | (exact hM.loads_W32 (by (repeat (first | exact .head _ | apply List.Mem.tail)); done) (on_of rfl) (by first | omega | (simp only [Len] at *; omega) | (simp; omega))) | (exact loads_cell (by assumption) (on_of rfl)))), ?_⟩) | ((with_reducible refine gL_store hM ?_); refine ⟨_, _, _, rfl, rfl, (by (first | (exact hM.stores_B8 (by first | exact (rfl : B8 _ = B8 _) | exact lit8 _ (by decide)) (by (repeat (first | exact .here _ _ _ | apply Has.there)); done) (on_of rfl) (by first | omega | (simp only [Len] at *; omega) | (simp; omega))) | (exact hM.stores_all (by (repeat (first | exact .here _ _ _ | apply Has.there)); done) (ag_of rfl) (by first | assumption | exact Len.map (by assumption) _ | rfl | exact Len.map (by rfl) _ | exact Len.of (by simp; done)) (by first | assumption | exact Len.map (by assumption) _ | rfl | exact Len.map (by rfl) _ | exact Len.of (by simp; done)) (by first | exact B8_one | exact W32_one | exact one_of_all rfl)) | (exact hM.stores_W32 rfl (by (repeat (first | exact .here _ _ _ | apply Has.there)); done) (on_of rfl) (by first | omega | (simp only [Len] at *; omega) | (simp; omega))) | (exact hM.stores_one (by (repeat (first | exact .here _ _ _ | apply Has.there)); done) (on_of rfl) (by first | omega | (simp only [Len] at *; omega) | (simp; omega)) rfl rfl))), ?_⟩; intro _ hM2; clear hM; have hM := hM2; clear hM2) | ((with_reducible refine gL_alloc hM ?_); refine ⟨_, _, (zr_of rfl), ?_⟩; intro _ _ hM2; clear hM; have hM := hM2; clear hM2) | ((with_reducible refine gL_box hM ?_); refine ⟨_, _, _, rfl, rfl, (by first | assumption | exact Len.map (by assumption) _ | rfl | exact Len.map (by rfl) _ | exact Len.of (by simp; done)), ?_⟩; intro _ _ hM2; clear hM; have hM := hM2; clear hM2) | ((with_reducible refine gL_build0 ?_); refine ⟨_, _, _, _, _, _, (zr_of rfl), (ua_of rfl), (ag_of rfl), (el_of rfl), ?_⟩) | ((with_reducible refine gL_buildBytes hM ?_); refine ⟨_, _, (us_of rfl), (el_of rfl), (by decide), (by decide), rfl, (by (repeat (first | exact EvB.nil | apply EvB.cons rfl (by first | exact (rfl : B8 _ = B8 _) | exact lit8 _ (by decide)))); done), ?_⟩; intro _ _ hM2; clear hM; have hM := hM2; clear hM2) | ((with_reducible refine gL_append_B hM ?_); refine ⟨_, _, _, _, _, _, _, _, _, _, rfl, rfl, (by first | exact (rfl : Value.slice (some ⟨_, 0, none⟩) _ _ = sl (some _) _ _) | exact (rfl : Value.slice none _ _ = sl none _ _) | rfl), (us_of rfl), (el_of rfl), (by first | exact hM.src (by (repeat (first | exact .head _ | apply List.Mem.tail)); done) | exact (hM.bytes0 (by assumption)).src), (fun _ _ => by (repeat (first | exact .here _ _ _ | apply Swap.there)); done), (by first | assumption | exact Len.map (by assumption) _ | rfl | exact Len.map (by rfl) _ | exact Len.of (by simp; done)), (by first | assumption | exact Len.map (by assumption) _ | rfl | exact Len.map (by rfl) _ | exact Len.of (by simp; done)), (by first | assumption | (simp [maxLen]; done) | omega | (simp [maxLen]; omega)), (by first | omega | (simp only [Len] at *; omega) | (simp; omega)), ?_⟩; intro _ _ _ hM2 _ _; clear hM; have hM := hM2; clear hM2) | ((first | (with_reducible refine gL_field ?_) | ((with_reducible refine gG_field ?_ ?_); (exact wanted_of rfl rfl rfl rfl rfl))); refine ⟨_, _, rfl, (by (first | (exact field_one (fb_of rfl) rfl) | (exact field_agg (fa_of rfl) rfl))), ?_⟩) | ((first | (with_reducible refine gL_eql ?_) | (with_reducible refine gL_neq ?_) | ((with_reducible refine gG_eql ?_ ?_); (exact wanted_of rfl rfl rfl rfl rfl)) | ((with_reducible refine gG_neq ?_ ?_); (exact wanted_of rfl rfl rfl rfl rfl))); refine ⟨_, _, _, rfl, rfl, (by first | exact wrong_self _ _), ?_⟩))
  refine (image_Body _ (.slice (some ⟨gB, 0, none⟩) 49 cap) B (hM.whole (.tail _ (.tail _ (.tail _ (.tail _ (.tail _ (.head _)))))) hbl (by simpa [maxLen] using hc)) (by rw [hbl.eq]; decide)).mono ?_
  rintro _ w5 ⟨ob5, m5, cap5, rfl, hm5, -, hM1⟩
  obtain rfl : m5 = 17 := hm5.eq.symm.trans hbd.eq
  obtain ⟨ao5, hao⟩ : ∃ ao, sl ob5 17 cap5 = .slice ao 17 cap5 := ⟨_, rfl⟩
  rw [hao]
  replace hM := hM.adds hM1.done
  clear hM1 hm5 hao
  go_wp2_with fail
  go_ret
  exact ⟨rfl, hM.done⟩
end Go.Proofs.YtejmbkljnhnklaaDoor
namespace Go.Proofs.YtejmbkljnhnklaaDoor
open Go.RowKit Go.PK
abbrev rImg : Rd (Int × Int × Int × List UInt8 × List UInt8) := rPair rInt (rPair rInt (rPair rInt (rPair (rSlice rByte) (rArr 32))))
theorem img_cells {w : World} {cs : List Value} {y : Int × Int × Int × List UInt8 × List UInt8} (h : rImg.K w cs y) : ∃ (x : Img.Im) (p : Value), cs = imC x p ∧ x = ⟨y.1, y.2.1, y.2.2.1, y.2.2.2.1, y.2.2.2.2⟩ ∧ Bytes w p x.pay ∧ Len x.tag 32 := by
  obtain ⟨c1, c2, rfl, e1, c3, c4, rfl, e2, c5, c6, rfl, e3, c7, c8, rfl, e4, e5, e6⟩ := h
  obtain rfl : c1 = [.int .i64 y.1] := e1
  obtain rfl : c3 = [.int .i64 y.2.1] := e2
  obtain rfl : c5 = [.int .i64 y.2.2.1] := e3
  obtain ⟨ao, cap, e7, -⟩ := id e4
  obtain ⟨p, rfl⟩ : ∃ p, c7 = [p] := ⟨_, e7⟩
  exact ⟨_, p, by rw [e5]; rfl, rfl, Bytes.of_K e4, Len.of e6⟩
end Go.Proofs.YtejmbkljnhnklaaDoor
namespace Go.Proofs.YtejmbkljnhnklaaDoor
open Go.RowKit Go.PK
theorem Bytes.none0 (w : World) (a : Addr) : Bytes w (.slice (some a) 0 0) [] := ⟨some a, 0, rfl, Nat.le_refl _, by decide, fun _ => rfl, fun j h => absurd h (Nat.not_lt_zero _)⟩
theorem im_one (x : Img.Im) (p : Value) (hp : p.oneCell' = true) : ∀ v ∈ imC x p, v.oneCell' = true := fun v hv => by
  rcases List.mem_append.1 hv with h | h
  · simp at h
    rcases h with rfl | rfl | rfl | rfl
    · rfl
    · rfl
    · rfl
    · exact hp
  · obtain ⟨c, _, rfl⟩ := List.mem_map.1 h
    rfl
theorem ref_body_sum (w0 : World) (v : Value) (b : List UInt8) (hv : Bytes w0 v b) (hbl : b.length ≤ 140737488351232) :
    Calls Tryd.prog 18 #[v] w0 fun e w' => ∃ v', e = .returned v' ∧ Bytes w' v' (Img.body b) ∧ Below w0.heap.size w0 w' := by
  refine (ref11_Body w0 v b hv hbl).mono ?_
  rintro e w' ⟨ob, m, cap, rfl, hm, hc, hM⟩
  exact ⟨_, rfl, hM.whole (.head _) hm (by simpa [maxLen] using hc), hM.done⟩
end Go.Proofs.YtejmbkljnhnklaaDoor
