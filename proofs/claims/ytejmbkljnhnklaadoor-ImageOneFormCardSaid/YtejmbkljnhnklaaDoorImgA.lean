/-
  Append of a string within a slice's capacity; an entry of which less is known; the slice's make with room, as an entry.
-/
import Derived.Test.YtejmbkljnhnklaaDoorImgK
namespace Go.PK
open Go.RowKit
section
variable {P : Program} {Q : Exit → Act → World → Prop} {ops : Array Oper} {rest : List Oper} {a : Act} {w : World} {G : List Nat} {w0 : World} {L : List Blk} {dst : Option Tmp} {type : TypeId} {pos : String} {after : Array Edge} {K : Act → World → Prop} {o : Oper}
theorem Mem.fewer {id : Option Nat} {t : TypeId} {C D : List Value} {N : Nat} (hM : Mem G w0 w (⟨id, t, C ++ D, N⟩ :: L)) : Mem G w0 w (⟨id, t, C, N⟩ :: L) := by
  refine ⟨hM.touch, fun b hb => ?_, fun b hb g hg => ?_, hM.nodup⟩
  · rcases List.mem_cons.1 hb with rfl | hb
    · have := hM.holds _ (.head _)
      unfold Blk.holds at this ⊢
      cases id with
      | none =>
        simp only at this ⊢
        exact ⟨(List.append_eq_nil_iff.1 this.1).1, this.2⟩
      | some g =>
        obtain ⟨J, hJ, hN⟩ := this
        refine ⟨D ++ J, ?_, ?_⟩
        · simp only at hJ ⊢
          rw [← List.append_assoc]
          exact hJ
        · simp only [List.length_append] at hN ⊢
          omega
    · exact hM.holds b (.tail _ hb)
  · rcases List.mem_cons.1 hb with rfl | hb
    · exact hM.own _ (.head _) g hg
    · exact hM.own b (.tail _ hb) g hg
theorem Mem.wp_append_str (hM : Mem G w0 w L) {s x : Operand} {t u : TypeId} {g : Nat} {e : TypeId} {l bs : List UInt8} {n cap bytes : Nat} {L' : List Blk} (ho : o.op = .call { callee := .builtin .append, args := #[s, x], argTypes := #[t, u] })
    (hs : a.eval s = .slice (some ⟨g, 0, none⟩) n cap) (ht : P.underlying t = some (.slice e)) (hu : P.underlying u = some .string) (hel : El P e 1 bytes) (hb : Has L ⟨some g, e, l.map B8, cap⟩ ⟨some g, e, (l ++ bs).map B8, cap⟩ L') (hl : Len l n)
    (hx : a.eval x = .string ⟨bs.toArray⟩) (hroom : n + bs.length ≤ cap) (h : ∀ w', Mem G w0 w' L' → K (a.put o.dst (.slice (some ⟨g, 0, none⟩) (n + bs.length) cap)) w') : o.wp P a w K Q := by
  obtain ⟨z, hinfo, hzs, hsz⟩ := hel
  obtain ⟨i, hi, hz, hsize, hby⟩ := info_parts hinfo
  obtain ⟨J, hJ, hN⟩ := hM.holds _ hb.mem
  rw [List.length_map, hl.eq] at hN
  replace hN : n + J.length = cap := hN
  have hst := run_storeCells_at (P := P) g n e (bs.map B8) 0 (l.map B8 ++ J).toArray w hJ (by simp [hl.eq]; omega) (fun v hv => by obtain ⟨c, _, rfl⟩ := List.mem_map.1 hv; rfl)
  have he : (l.map B8 ++ J).take (n + 0) ++ bs.map B8 ++ (l.map B8 ++ J).drop (n + 0 + (bs.map B8).length) = (l ++ bs).map B8 ++ J.drop bs.length := by
    rw [Nat.add_zero, List.take_left' (by rw [List.length_map, hl.eq]), List.length_map, ← List.drop_drop, List.drop_left' (by rw [List.length_map, hl.eq]), List.map_append]
  simp only at hst
  rw [he] at hst
  have hM2 := hM.setRow hb hJ (J.drop bs.length) (by simp [hl.eq]; omega)
  have hf : (Builtin.firstCells 1 bs.length (.string ⟨bs.toArray⟩)).run P w = .ok (bs.map B8).toArray w := by
    have e1 : ((⟨bs.toArray⟩ : ByteArray).extract 0 bs.length).data = bs.toArray := by
      rw [ByteArray.data_extract]
      simp
    unfold Builtin.firstCells
    show Result.ok ((((⟨bs.toArray⟩ : ByteArray).extract 0 bs.length).data).map fun b => Value.int .u8 b.toNat) w = _
    rw [e1, List.map_toArray]
    rfl
  have hsize2 : (⟨bs.toArray⟩ : ByteArray).size = bs.length := by show bs.toArray.size = _; simp
  have hrun : (Builtin.append_ #[t, u] o.type #[.slice (some ⟨g, 0, none⟩) n cap, .string ⟨bs.toArray⟩]).run P w = .ok (.slice (some ⟨g, 0, none⟩) (n + bs.length) cap) (w.setRow g ((l ++ bs).map B8 ++ J.drop bs.length).toArray) := by
    have hst' : (storeCells ⟨g, n, none⟩ (bs.map B8)).run P w = _ := hst
    have hif : (if n = 0 then (⟨g, 0, none⟩ : Addr) else ⟨g, n, none⟩) = ⟨g, n, none⟩ := by split <;> simp_all
    simp [Builtin.append_, run_underlying ht, run_underlying hu, sizeOf, typeInfo, hi, hsize, Builtin.lenOf, hsize2, hroom, hf, Addr.add]
    rw [hif, hst']
    simp
  unfold Oper.wp execOp
  simp only [ho, resolve, invoke, builtin, Sem.run_bind, Sem.run_pure, Result.andThen_ok, List.map_toArray, List.map_cons, List.map_nil, hs, hx, hrun]
  exact h _ hM2
/-- append(s, "..") within the capacity -/
theorem gL_append_str (hM : Mem G w0 w L) {s x : Operand} {t u : TypeId} (h : ∃ (g : Nat) (e : TypeId) (l bs : List UInt8) (n cap bytes : Nat) (L' : List Blk), a.eval s = .slice (some ⟨g, 0, none⟩) n cap ∧ P.underlying t = some (.slice e) ∧ P.underlying u = some .string ∧ El P e 1 bytes ∧
    Has L ⟨some g, e, l.map B8, cap⟩ ⟨some g, e, (l ++ bs).map B8, cap⟩ L' ∧ Len l n ∧ a.eval x = .string ⟨bs.toArray⟩ ∧ n + bs.length ≤ cap ∧ ∀ w', Mem G w0 w' L' → wpList P ops Q rest (a.put dst (.slice (some ⟨g, 0, none⟩) (n + bs.length) cap)) w') :
    wpList P ops Q (Oper.mk dst (.call { callee := .builtin .append, args := #[s, x], argTypes := #[t, u] }) type pos after none :: rest) a w := by
  obtain ⟨g, e, l, bs, n, cap, bytes, L', h1, h2, h3, h4, h5, h6, h7, h8, h9⟩ := h
  exact wpList_plain rfl fun _ hk => hM.wp_append_str rfl h1 h2 h3 h4 h5 h6 h7 h8 fun w' g1 => hk _ _ (h9 w' g1)
end
end Go.PK
namespace Go.Proofs.YtejmbkljnhnklaaDoor
open Go.RowKit Go.PK
/-- the cells of an image -/
abbrev imC (x : Img.Im) (p : Value) : List Value := ([.int .i64 x.slot, .int .i64 x.key, .int .i64 x.ver, p] : List Value) ++ x.tag.map B8
theorem imC_len {x : Img.Im} (h : Len x.tag 32) (p : Value) : Len (imC x p) 36 := Len.of (by rw [List.length_append, List.length_map, h.eq]; rfl)
theorem im_ways (x : Img.Im) : (x.slot < 0) ∨ (¬ x.slot < 0 ∧ 8 ≤ x.slot) ∨ (¬ x.slot < 0 ∧ ¬ 8 ≤ x.slot ∧ x.key < 0) ∨ (¬ x.slot < 0 ∧ ¬ 8 ≤ x.slot ∧ ¬ x.key < 0 ∧ 64 ≤ x.key) ∨
    (¬ x.slot < 0 ∧ ¬ 8 ≤ x.slot ∧ ¬ x.key < 0 ∧ ¬ 64 ≤ x.key ∧ x.ver < 0) ∨ (¬ x.slot < 0 ∧ ¬ 8 ≤ x.slot ∧ ¬ x.key < 0 ∧ ¬ 64 ≤ x.key ∧ ¬ x.ver < 0 ∧ 4294967296 ≤ x.ver) ∨
    (¬ x.slot < 0 ∧ ¬ 8 ≤ x.slot ∧ ¬ x.key < 0 ∧ ¬ 64 ≤ x.key ∧ ¬ x.ver < 0 ∧ ¬ 4294967296 ≤ x.ver) := by omega
theorem may_off {x : Img.Im} (h : Img.Off x) : Img.may x = 2 := if_pos h
theorem may_long {x : Img.Im} (h : ¬ Img.Off x) (k : 524240 < x.pay.length) : Img.may x = 4 := by rw [Img.may, if_neg h, if_pos k]
theorem may_ok {x : Img.Im} (h : ¬ Img.Off x) (k : ¬ 524240 < x.pay.length) : Img.may x = 0 := by rw [Img.may, if_neg h, if_neg k]

set_option maxRecDepth 100000 in
set_option maxHeartbeats 4000000 in
theorem ref11_May (w : World) (x : Img.Im) (p : Value) (hp : Bytes w p x.pay) (hT : Len x.tag 32) :
    Calls Tryd.prog 25 #[.agg (imC x p).toArray] w fun e w' => e = .returned (.int .i64 (Img.may x : Int)) ∧ Below w.heap.size w w' := by
  have hM := Mem.start w
  have hC := imC_len hT p
  have hw := im_ways x
  have hOff : ∀ _ : Unit, Img.Off x ↔ (x.slot < 0 ∨ 7 < x.slot ∨ x.key < 0 ∨ 63 < x.key ∨ x.ver < 0 ∨ 4294967295 < x.ver) := fun _ => Iff.rfl
  obtain ⟨ao, cap, rfl, g1, g2, -⟩ := hp
  obtain ⟨k, hk⟩ : ∃ k, k = Img.may x := ⟨_, rfl⟩
  have HK : ∀ _ : Unit, k = Img.may x := fun _ => hk
  rw [← hk]
  clear hk
  obtain ⟨n, hn⟩ : ∃ n, n = x.pay.length := ⟨_, rfl⟩
  have HN : ∀ _ : Unit, n = x.pay.length := fun _ => hn
  rw [← hn] at g1 hC ⊢
  clear hn
  have hoff : Img.Off x → k = 2 := fun h => (HK ()).trans (may_off h)
  have hlong : ¬ Img.Off x → 524240 < n → k = 4 := fun h h2 => (HK ()).trans (may_long h (by rw [← HN ()]; exact h2))
  have hok : ¬ Img.Off x → ¬ 524240 < n → k = 0 := fun h h2 => (HK ()).trans (may_ok h (by rw [← HN ()]; exact h2))
  rw [hOff ()] at hoff hlong hok
  clear hOff HK HN
  unfold imC at hC ⊢
  generalize x.tag.map B8 = TC at *
  generalize x.slot = s at *
  generalize x.key = y at *
  generalize x.ver = v at *
  go_enter Tryd.func25, Tryd.ntmps25
  rcases hw with h1 | ⟨h1, h2⟩ | ⟨h1, h2, h3⟩ | ⟨h1, h2, h3, h4⟩ | ⟨h1, h2, h3, h4, h5⟩ | ⟨h1, h2, h3, h4, h5, h6⟩ | ⟨h1, h2, h3, h4, h5, h6⟩
  case inr.inr.inr.inr.inr.inr =>
    have i2 : ¬ 7 < s := by omega
    have i4 : ¬ 63 < y := by omega
    have i6 : ¬ 4294967295 < v := by omega
    by_cases hl : 524240 < n
    · obtain rfl : k = 4 := hlong (by omega) hl
      have hli : (524240 : Int) < (n : Int) := by omega
      clear hoff hlong hok
      go_wp2_with (first | ((with_reducible refine gL_box hM ?_); refine ⟨_, _, _, rfl, rfl, hC, ?_⟩; intro _ _ hM2; clear hM; have hM := hM2; clear hM2) | go_skip | ((first | (with_reducible refine gL_load ?_) | ((with_reducible refine gG_load ?_ ?_); (exact wanted_of rfl rfl rfl rfl rfl))); refine ⟨_, _, rfl, (by (first | (assumption) | (exact hM.loads_B8 (by (repeat (first | exact .head _ | apply List.Mem.tail)); done) (on_of rfl) (by first | omega | (simp only [Len] at *; omega) | (simp; omega))) | (exact hM.loads_all (by (repeat (first | exact .head _ | apply List.Mem.tail)); done) (ag_of rfl) (by first | assumption | exact Len.map (by assumption) _ | rfl | exact Len.map (by rfl) _ | exact Len.of (by simp; done))) | (exact hM.loads_one (by (repeat (first | exact .head _ | apply List.Mem.tail)); done) (on_of rfl) rfl) | (exact hM.loads_W32 (by (repeat (first | exact .head _ | apply List.Mem.tail)); done) (on_of rfl) (by first | omega | (simp only [Len] at *; omega) | (simp; omega))) | (exact loads_cell (by assumption) (on_of rfl)))), ?_⟩) | ((with_reducible refine gL_store hM ?_); refine ⟨_, _, _, rfl, rfl, (by (first | (exact hM.stores_B8 (by first | exact (rfl : B8 _ = B8 _) | exact lit8 _ (by decide)) (by (repeat (first | exact .here _ _ _ | apply Has.there)); done) (on_of rfl) (by first | omega | (simp only [Len] at *; omega) | (simp; omega))) | (exact hM.stores_all (by (repeat (first | exact .here _ _ _ | apply Has.there)); done) (ag_of rfl) (by first | assumption | exact Len.map (by assumption) _ | rfl | exact Len.map (by rfl) _ | exact Len.of (by simp; done)) (by first | assumption | exact Len.map (by assumption) _ | rfl | exact Len.map (by rfl) _ | exact Len.of (by simp; done)) (by first | exact B8_one | exact W32_one | exact one_of_all rfl)) | (exact hM.stores_W32 rfl (by (repeat (first | exact .here _ _ _ | apply Has.there)); done) (on_of rfl) (by first | omega | (simp only [Len] at *; omega) | (simp; omega))) | (exact hM.stores_one (by (repeat (first | exact .here _ _ _ | apply Has.there)); done) (on_of rfl) (by first | omega | (simp only [Len] at *; omega) | (simp; omega)) rfl rfl))), ?_⟩; intro _ hM2; clear hM; have hM := hM2; clear hM2) | ((with_reducible refine gL_alloc hM ?_); refine ⟨_, _, (zr_of rfl), ?_⟩; intro _ _ hM2; clear hM; have hM := hM2; clear hM2) | ((with_reducible refine gL_box hM ?_); refine ⟨_, _, _, rfl, rfl, (by first | assumption | exact Len.map (by assumption) _ | rfl | exact Len.map (by rfl) _ | exact Len.of (by simp; done)), ?_⟩; intro _ _ hM2; clear hM; have hM := hM2; clear hM2) | ((with_reducible refine gL_build0 ?_); refine ⟨_, _, _, _, _, _, (zr_of rfl), (ua_of rfl), (ag_of rfl), (el_of rfl), ?_⟩) | ((with_reducible refine gL_buildBytes hM ?_); refine ⟨_, _, (us_of rfl), (el_of rfl), (by decide), (by decide), rfl, (by (repeat (first | exact EvB.nil | apply EvB.cons rfl (by first | exact (rfl : B8 _ = B8 _) | exact lit8 _ (by decide)))); done), ?_⟩; intro _ _ hM2; clear hM; have hM := hM2; clear hM2) | ((with_reducible refine gL_append_B hM ?_); refine ⟨_, _, _, _, _, _, _, _, _, _, rfl, rfl, (by first | exact (rfl : Value.slice (some ⟨_, 0, none⟩) _ _ = sl (some _) _ _) | exact (rfl : Value.slice none _ _ = sl none _ _) | rfl), (us_of rfl), (el_of rfl), (by first | exact hM.src (by (repeat (first | exact .head _ | apply List.Mem.tail)); done) | exact (hM.bytes0 (by assumption)).src), (fun _ _ => by (repeat (first | exact .here _ _ _ | apply Swap.there)); done), (by first | assumption | exact Len.map (by assumption) _ | rfl | exact Len.map (by rfl) _ | exact Len.of (by simp; done)), (by first | assumption | exact Len.map (by assumption) _ | rfl | exact Len.map (by rfl) _ | exact Len.of (by simp; done)), (by first | assumption | (simp [maxLen]; done) | omega | (simp [maxLen]; omega)), (by first | omega | (simp only [Len] at *; omega) | (simp; omega)), ?_⟩; intro _ _ _ hM2 _ _; clear hM; have hM := hM2; clear hM2) | ((first | (with_reducible refine gL_field ?_) | ((with_reducible refine gG_field ?_ ?_); (exact wanted_of rfl rfl rfl rfl rfl))); refine ⟨_, _, rfl, (by (first | (exact field_one (fb_of rfl) rfl) | (exact field_agg (fa_of rfl) rfl))), ?_⟩))
      go_ret
      exact ⟨rfl, hM.done⟩
    · obtain rfl : k = 0 := hok (by omega) hl
      have hli : ¬ (524240 : Int) < (n : Int) := by omega
      clear hoff hlong hok
      go_wp2_with (first | ((with_reducible refine gL_box hM ?_); refine ⟨_, _, _, rfl, rfl, hC, ?_⟩; intro _ _ hM2; clear hM; have hM := hM2; clear hM2) | go_skip | ((first | (with_reducible refine gL_load ?_) | ((with_reducible refine gG_load ?_ ?_); (exact wanted_of rfl rfl rfl rfl rfl))); refine ⟨_, _, rfl, (by (first | (assumption) | (exact hM.loads_B8 (by (repeat (first | exact .head _ | apply List.Mem.tail)); done) (on_of rfl) (by first | omega | (simp only [Len] at *; omega) | (simp; omega))) | (exact hM.loads_all (by (repeat (first | exact .head _ | apply List.Mem.tail)); done) (ag_of rfl) (by first | assumption | exact Len.map (by assumption) _ | rfl | exact Len.map (by rfl) _ | exact Len.of (by simp; done))) | (exact hM.loads_one (by (repeat (first | exact .head _ | apply List.Mem.tail)); done) (on_of rfl) rfl) | (exact hM.loads_W32 (by (repeat (first | exact .head _ | apply List.Mem.tail)); done) (on_of rfl) (by first | omega | (simp only [Len] at *; omega) | (simp; omega))) | (exact loads_cell (by assumption) (on_of rfl)))), ?_⟩) | ((with_reducible refine gL_store hM ?_); refine ⟨_, _, _, rfl, rfl, (by (first | (exact hM.stores_B8 (by first | exact (rfl : B8 _ = B8 _) | exact lit8 _ (by decide)) (by (repeat (first | exact .here _ _ _ | apply Has.there)); done) (on_of rfl) (by first | omega | (simp only [Len] at *; omega) | (simp; omega))) | (exact hM.stores_all (by (repeat (first | exact .here _ _ _ | apply Has.there)); done) (ag_of rfl) (by first | assumption | exact Len.map (by assumption) _ | rfl | exact Len.map (by rfl) _ | exact Len.of (by simp; done)) (by first | assumption | exact Len.map (by assumption) _ | rfl | exact Len.map (by rfl) _ | exact Len.of (by simp; done)) (by first | exact B8_one | exact W32_one | exact one_of_all rfl)) | (exact hM.stores_W32 rfl (by (repeat (first | exact .here _ _ _ | apply Has.there)); done) (on_of rfl) (by first | omega | (simp only [Len] at *; omega) | (simp; omega))) | (exact hM.stores_one (by (repeat (first | exact .here _ _ _ | apply Has.there)); done) (on_of rfl) (by first | omega | (simp only [Len] at *; omega) | (simp; omega)) rfl rfl))), ?_⟩; intro _ hM2; clear hM; have hM := hM2; clear hM2) | ((with_reducible refine gL_alloc hM ?_); refine ⟨_, _, (zr_of rfl), ?_⟩; intro _ _ hM2; clear hM; have hM := hM2; clear hM2) | ((with_reducible refine gL_box hM ?_); refine ⟨_, _, _, rfl, rfl, (by first | assumption | exact Len.map (by assumption) _ | rfl | exact Len.map (by rfl) _ | exact Len.of (by simp; done)), ?_⟩; intro _ _ hM2; clear hM; have hM := hM2; clear hM2) | ((with_reducible refine gL_build0 ?_); refine ⟨_, _, _, _, _, _, (zr_of rfl), (ua_of rfl), (ag_of rfl), (el_of rfl), ?_⟩) | ((with_reducible refine gL_buildBytes hM ?_); refine ⟨_, _, (us_of rfl), (el_of rfl), (by decide), (by decide), rfl, (by (repeat (first | exact EvB.nil | apply EvB.cons rfl (by first | exact (rfl : B8 _ = B8 _) | exact lit8 _ (by decide)))); done), ?_⟩; intro _ _ hM2; clear hM; have hM := hM2; clear hM2) | ((with_reducible refine gL_append_B hM ?_); refine ⟨_, _, _, _, _, _, _, _, _, _, rfl, rfl, (by first | exact (rfl : Value.slice (some ⟨_, 0, none⟩) _ _ = sl (some _) _ _) | exact (rfl : Value.slice none _ _ = sl none _ _) | rfl), (us_of rfl), (el_of rfl), (by first | exact hM.src (by (repeat (first | exact .head _ | apply List.Mem.tail)); done) | exact (hM.bytes0 (by assumption)).src), (fun _ _ => by (repeat (first | exact .here _ _ _ | apply Swap.there)); done), (by first | assumption | exact Len.map (by assumption) _ | rfl | exact Len.map (by rfl) _ | exact Len.of (by simp; done)), (by first | assumption | exact Len.map (by assumption) _ | rfl | exact Len.map (by rfl) _ | exact Len.of (by simp; done)), (by first | assumption | (simp [maxLen]; done) | omega | (simp [maxLen]; omega)), (by first | omega | (simp only [Len] at *; omega) | (simp; omega)), ?_⟩; intro _ _ _ hM2 _ _; clear hM; have hM := hM2; clear hM2) | ((first | (with_reducible refine gL_field ?_) | ((with_reducible refine gG_field ?_ ?_); (exact wanted_of rfl rfl rfl rfl rfl))); refine ⟨_, _, rfl, (by (first | (exact field_one (fb_of rfl) rfl) | (exact field_agg (fa_of rfl) rfl))), ?_⟩))
      go_ret
      exact ⟨rfl, hM.done⟩
  all_goals
    obtain rfl : k = 2 := hoff (by omega)
    try (have i2 : 7 < s := by omega)
    try (have i2 : ¬ 7 < s := by omega)
    try (have i4 : 63 < y := by omega)
    try (have i4 : ¬ 63 < y := by omega)
    try (have i6 : 4294967295 < v := by omega)
    clear hoff hlong hok
    go_wp2_with (first | ((with_reducible refine gL_box hM ?_); refine ⟨_, _, _, rfl, rfl, hC, ?_⟩; intro _ _ hM2; clear hM; have hM := hM2; clear hM2) | go_skip | ((first | (with_reducible refine gL_load ?_) | ((with_reducible refine gG_load ?_ ?_); (exact wanted_of rfl rfl rfl rfl rfl))); refine ⟨_, _, rfl, (by (first | (assumption) | (exact hM.loads_B8 (by (repeat (first | exact .head _ | apply List.Mem.tail)); done) (on_of rfl) (by first | omega | (simp only [Len] at *; omega) | (simp; omega))) | (exact hM.loads_all (by (repeat (first | exact .head _ | apply List.Mem.tail)); done) (ag_of rfl) (by first | assumption | exact Len.map (by assumption) _ | rfl | exact Len.map (by rfl) _ | exact Len.of (by simp; done))) | (exact hM.loads_one (by (repeat (first | exact .head _ | apply List.Mem.tail)); done) (on_of rfl) rfl) | (exact hM.loads_W32 (by (repeat (first | exact .head _ | apply List.Mem.tail)); done) (on_of rfl) (by first | omega | (simp only [Len] at *; omega) | (simp; omega))) | (exact loads_cell (by assumption) (on_of rfl)))), ?_⟩) | ((with_reducible refine gL_store hM ?_); refine ⟨_, _, _, rfl, rfl, (by (first | (exact hM.stores_B8 (by first | exact (rfl : B8 _ = B8 _) | exact lit8 _ (by decide)) (by (repeat (first | exact .here _ _ _ | apply Has.there)); done) (on_of rfl) (by first | omega | (simp only [Len] at *; omega) | (simp; omega))) | (exact hM.stores_all (by (repeat (first | exact .here _ _ _ | apply Has.there)); done) (ag_of rfl) (by first | assumption | exact Len.map (by assumption) _ | rfl | exact Len.map (by rfl) _ | exact Len.of (by simp; done)) (by first | assumption | exact Len.map (by assumption) _ | rfl | exact Len.map (by rfl) _ | exact Len.of (by simp; done)) (by first | exact B8_one | exact W32_one | exact one_of_all rfl)) | (exact hM.stores_W32 rfl (by (repeat (first | exact .here _ _ _ | apply Has.there)); done) (on_of rfl) (by first | omega | (simp only [Len] at *; omega) | (simp; omega))) | (exact hM.stores_one (by (repeat (first | exact .here _ _ _ | apply Has.there)); done) (on_of rfl) (by first | omega | (simp only [Len] at *; omega) | (simp; omega)) rfl rfl))), ?_⟩; intro _ hM2; clear hM; have hM := hM2; clear hM2) | ((with_reducible refine gL_alloc hM ?_); refine ⟨_, _, (zr_of rfl), ?_⟩; intro _ _ hM2; clear hM; have hM := hM2; clear hM2) | ((with_reducible refine gL_box hM ?_); refine ⟨_, _, _, rfl, rfl, (by first | assumption | exact Len.map (by assumption) _ | rfl | exact Len.map (by rfl) _ | exact Len.of (by simp; done)), ?_⟩; intro _ _ hM2; clear hM; have hM := hM2; clear hM2) | ((with_reducible refine gL_build0 ?_); refine ⟨_, _, _, _, _, _, (zr_of rfl), (ua_of rfl), (ag_of rfl), (el_of rfl), ?_⟩) | ((with_reducible refine gL_buildBytes hM ?_); refine ⟨_, _, (us_of rfl), (el_of rfl), (by decide), (by decide), rfl, (by (repeat (first | exact EvB.nil | apply EvB.cons rfl (by first | exact (rfl : B8 _ = B8 _) | exact lit8 _ (by decide)))); done), ?_⟩; intro _ _ hM2; clear hM; have hM := hM2; clear hM2) | ((with_reducible refine gL_append_B hM ?_); refine ⟨_, _, _, _, _, _, _, _, _, _, rfl, rfl, (by first | exact (rfl : Value.slice (some ⟨_, 0, none⟩) _ _ = sl (some _) _ _) | exact (rfl : Value.slice none _ _ = sl none _ _) | rfl), (us_of rfl), (el_of rfl), (by first | exact hM.src (by (repeat (first | exact .head _ | apply List.Mem.tail)); done) | exact (hM.bytes0 (by assumption)).src), (fun _ _ => by (repeat (first | exact .here _ _ _ | apply Swap.there)); done), (by first | assumption | exact Len.map (by assumption) _ | rfl | exact Len.map (by rfl) _ | exact Len.of (by simp; done)), (by first | assumption | exact Len.map (by assumption) _ | rfl | exact Len.map (by rfl) _ | exact Len.of (by simp; done)), (by first | assumption | (simp [maxLen]; done) | omega | (simp [maxLen]; omega)), (by first | omega | (simp only [Len] at *; omega) | (simp; omega)), ?_⟩; intro _ _ _ hM2 _ _; clear hM; have hM := hM2; clear hM2) | ((first | (with_reducible refine gL_field ?_) | ((with_reducible refine gG_field ?_ ?_); (exact wanted_of rfl rfl rfl rfl rfl))); refine ⟨_, _, rfl, (by (first | (exact field_one (fb_of rfl) rfl) | (exact field_agg (fa_of rfl) rfl))), ?_⟩))
    go_ret
    exact ⟨rfl, hM.done⟩
end Go.Proofs.YtejmbkljnhnklaaDoor
