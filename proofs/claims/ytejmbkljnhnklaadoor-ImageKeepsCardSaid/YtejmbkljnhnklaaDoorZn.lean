/-
  The walk of ImageKeeps.
-/
import Derived.Test.YtejmbkljnhnklaaDoorZk
namespace Go.Proofs.YtejmbkljnhnklaaDoor
open Go.RowKit Go.PK
def outs (CM PB BB : List UInt8) (q : Nat) : List UInt8 := if q % 3 = 0 then CM else if q % 3 = 1 then PB else BB
def RGood (f : Nat → List UInt8) (rs : List OR) : Prop := ∀ q r, rs[q]? = some r → r.Ok ∧ ∀ w' : World, r.b.holds w' → Bytes w' r.v (f q)
theorem perm3e {α : Type} (a b c : α) (l : List α) : (a :: b :: c :: l).Perm (l ++ [c, b, a]) := by
  have h1 : (a :: b :: c :: l).Perm (l ++ [a, b, c]) := List.perm_append_comm (l₁ := [a, b, c]) (l₂ := l)
  refine h1.trans (List.Perm.append_left l ?_)
  exact (List.Perm.swap b a [c]).trans ((List.Perm.cons b (List.Perm.swap c a [])).trans (List.Perm.swap c b [a]))
theorem RGood.next {CM PB BB : List UInt8} {rs : List OR} {j : Nat} (h : RGood (outs CM PB BB) rs) (hl : Len rs (3 * j)) {r1 r2 r3 : OR} (k1 : r1.Ok) (k2 : r2.Ok) (k3 : r3.Ok) (h1 : ∀ w' : World, r1.b.holds w' → Bytes w' r1.v CM) (h2 : ∀ w' : World, r2.b.holds w' → Bytes w' r2.v PB) (h3 : ∀ w' : World, r3.b.holds w' → Bytes w' r3.v BB) :
    RGood (outs CM PB BB) (rs ++ [r1, r2, r3]) := by
  intro q r hq
  by_cases hlt : q < 3 * j
  · rw [List.getElem?_append_left (by rw [hl.eq]; exact hlt)] at hq
    exact h q r hq
  · rw [List.getElem?_append_right (by rw [hl.eq]; omega), hl.eq] at hq
    have hlen : q - 3 * j < 3 := (List.getElem?_eq_some_iff.1 hq).1
    obtain ⟨i, rfl⟩ : ∃ i, q = 3 * j + i := ⟨q - 3 * j, by omega⟩
    rw [Nat.add_sub_cancel_left] at hq hlen
    have hi : i = 0 ∨ i = 1 ∨ i = 2 := by omega
    unfold outs
    rcases hi with rfl | rfl | rfl
    · simp at hq
      subst hq
      rw [if_pos (by omega)]
      exact ⟨k1, h1⟩
    · simp at hq
      subst hq
      rw [if_neg (by omega), if_pos (by omega)]
      exact ⟨k2, h2⟩
    · simp at hq
      subst hq
      rw [if_neg (by omega), if_neg (by omega)]
      exact ⟨k3, h3⟩
set_option maxRecDepth 100000 in
set_option maxHeartbeats 4000000 in
theorem ImageKeeps_walk (w0 : World) (hg : TypeLaid w0) (v : Value) (s : List UInt8) (hs : Bytes w0 v s) (hsl : s.length ≤ 140737488351232) (vb : Value) (B : List UInt8) (hb : Bytes w0 vb B) (hbl : B.length ≤ 140737488351232) (cs : List Value) (z : Int × Int × Int × List UInt8 × List UInt8) (hK : rImg.K w0 cs z) (ho : rImg.ok z) :
    Calls Tryd.prog 8 #[v, vb, .agg cs.toArray] w0 fun e w' => e = .returned (.bool true) ∧ Below w0.heap.size w0 w' := by
  obtain ⟨xi, p0, rfl, hxz, hp0, hT0⟩ := img_cells hK
  have hpl : xi.pay.length ≤ 140737488351232 := by rw [hxz]; exact ho.2.2.2.1.1
  clear hK ho hxz
  obtain ⟨y, ec, ek, hy⟩ : ∃ y ec ek, Img.parse B = (y, (ec, ek)) := ⟨_, _, _, rfl⟩
  obtain ⟨CM, km, hmk⟩ : ∃ CM km, Img.make s xi = (CM, km) := ⟨_, _, rfl⟩
  obtain ⟨BB, hBB⟩ : ∃ BB, Img.body B = BB := ⟨_, rfl⟩
  have hp1 : p0.oneCell' = true := by obtain ⟨_, _, rfl, -⟩ := id hp0; rfl
  have hC0 := imC_len hT0 p0
  have hC1 := im_one xi p0 hp1
  have hz := im0_zero
  have hzC := imC_len (x := Img.im0) (Len.rep 32 0) (.slice none 0 0)
  -- the calls
  have hmake : ∀ (w : World) (vs vp : Value), Bytes w vs s → Bytes w vp xi.pay → _ := fun w vs vp h1 h2 => make_own w vs s h1 hsl xi vp h2 hT0
  have hrmake : ∀ w, Adds w0 w → _ := fun w hw => ref11_Make w v s (hs.adds hw) hsl xi p0 (hp0.adds hw) hT0
  have hparse : ∀ (w : World) (vi : Value), Bytes w vi B → _ := fun w vi h1 => parse_own w vi B h1 hbl y ec ek hy
  have hrparse : ∀ w, Adds w0 w → _ := fun w hw => ref_parse_own w vb B (hb.adds hw) hbl y ec ek hy
  have hbody : ∀ (w : World) (vi : Value), Bytes w vi B → _ := fun w vi h1 => body_own w vi B h1 hbl
  have hrbody : ∀ w, Adds w0 w → _ := fun w hw => ref_body_sum w vb B (hb.adds hw) hbl
  rw [hmk] at hmake hrmake
  rw [hBB] at hbody hrbody
  obtain ⟨ns, hns⟩ : ∃ n, n = s.length := ⟨_, rfl⟩
  obtain ⟨nb, hnb⟩ : ∃ n, n = B.length := ⟨_, rfl⟩
  obtain ⟨np, hnp⟩ : ∃ n, n = xi.pay.length := ⟨_, rfl⟩
  have hsL : Len s ns := Len.of hns.symm
  have hbL : Len B nb := Len.of hnb.symm
  have hpL : Len xi.pay np := Len.of hnp.symm
  rw [← hns] at hsl
  rw [← hnb] at hbl
  rw [← hnp] at hpl
  clear hns hnb hnp hy hmk hBB
  have hwS : ∀ w, Adds w0 w → _ := fun w hw => law11_wide w v s (hs.adds hw) ns hsL hsl
  have hwB : ∀ w, Adds w0 w → _ := fun w hw => law11_wide w vb B (hb.adds hw) nb hbL hbl
  have hwP : ∀ w, Adds w0 w → _ := fun w hw => law11_wide w p0 xi.pay (hp0.adds hw) np hpL hpl
  have hM := Mem.start w0
  go_enter Tryd.func8, Tryd.ntmps8
  go_wp2_with (first
    | ((with_reducible refine gL_box (dst := some 5) hM ?_); refine ⟨_, imC xi p0, 36, rfl, rfl, hC0, ?_⟩; intro g5 _ hM2; clear hM; have hM := hM2; clear hM2))
  refine (law11_awake _ (hg.mem hM)).mono ?_
  rintro _ w1 ⟨rfl, B1⟩
  replace hM := hM.adds B1
  clear B1
  go_upto_region 3 with fail
  go_cut [7, 8, 9] from 35 to 42 (fun a b c wx => ∃ (gS NS gI NI gP NP : Nat), a = .slice (some ⟨gS, 0, none⟩) ns NS ∧ b = .slice (some ⟨gI, 0, none⟩) nb NI ∧ c = .slice (some ⟨gP, 0, none⟩) np NP ∧ ns + 5 ≤ NS ∧ NS ≤ maxLen ∧ nb + 5 ≤ NI ∧ NI ≤ maxLen ∧ np + 5 ≤ NP ∧ NP ≤ maxLen ∧
    Mem [] w0 wx [⟨some gS, 5, (s ++ marks5).map B8, NS⟩, ⟨some gI, 5, (B ++ marks5).map B8, NI⟩, ⟨some gP, 5, (xi.pay ++ marks5).map B8, NP⟩, ⟨some g5, 27, imC xi p0, 36⟩])
  case first =>
    have c0 : w1.cell? ⟨g5, 3, none⟩ = some p0 := hM.cell (.head _) rfl
    replace hM := hM.drew
    clear hmake hrmake hparse hrparse hbody hrbody
    go_region_with (first
      | (go_at_call 21; (with_reducible refine (hwS _ hM.done).mono ?_); rintro _ _ ⟨gS, NS, rfl, hS1, hS2, hM3⟩; clear hwS; replace hM := hM.addMem hM3; simp only [List.cons_append, List.nil_append] at hM; clear hM3; have c1 : World.cell? _ ⟨g5, 3, none⟩ = some p0 := hM.cell (t := 27) (C := imC xi p0) (N := 36) (by (repeat (first | exact .head _ | apply List.Mem.tail)); done) rfl)
      | (go_at_call 21; (with_reducible refine (hwB _ hM.done).mono ?_); rintro _ _ ⟨gI, NI, rfl, hI1, hI2, hM3⟩; clear hwB; replace hM := hM.addMem hM3; simp only [List.cons_append, List.nil_append] at hM; clear hM3; have c2 : World.cell? _ ⟨g5, 3, none⟩ = some p0 := hM.cell (t := 27) (C := imC xi p0) (N := 36) (by (repeat (first | exact .head _ | apply List.Mem.tail)); done) rfl)
      | (go_at_call 21; (with_reducible refine (hwP _ hM.done).mono ?_); rintro _ _ ⟨gP, NP, rfl, hP1, hP2, hM3⟩; clear hwP; replace hM := hM.addMem hM3; simp only [List.cons_append, List.nil_append] at hM; clear hM3; have c3 : World.cell? _ ⟨g5, 3, none⟩ = some p0 := hM.cell (t := 27) (C := imC xi p0) (N := 36) (by (repeat (first | exact .head _ | apply List.Mem.tail)); done) rfl))
    all_goals
      go_wp2_with fail
      go_meet
      refine ⟨gS, NS, gI, NI, gP, NP, rfl, rfl, rfl, hS1, hS2, hI1, hI2, hP1, hP2, ?_⟩
      first
        | exact hM
        | exact hM.perm (.swap _ _ _)
        | exact hM.perm (.cons _ (.swap _ _ _))
        | exact (hM.perm (.swap _ _ _)).perm (.cons _ (.swap _ _ _))
        | exact (hM.perm (.cons _ (.swap _ _ _))).perm (.swap _ _ _)
        | exact ((hM.perm (.swap _ _ _)).perm (.cons _ (.swap _ _ _))).perm (.swap _ _ _)
  case rest =>
  clear hM hwS hwB hwP
  obtain ⟨gS, NS, gI, NI, gP, NP, rfl, rfl, rfl, hS1, hS2, hI1, hI2, hP1, hP2, hM⟩ := hcut
  go_wp2_with (first
    | ((with_reducible refine gL_load (dst := some 42) ?_); refine ⟨_, _, rfl, hM.loads_all (.tail _ (.tail _ (.tail _ (.head _)))) (ag_of rfl) hC0, ?_⟩)
    | ((with_reducible refine gL_alloc (dst := some 10) hM ?_); refine ⟨_, _, hz, ?_⟩; intro g10 _ hM2; clear hM; have hM := hM2; clear hM2)
    | ((with_reducible refine gL_store (x := .tmp 10) hM ?_); refine ⟨_, _, _, rfl, rfl, hM.stores_all (.here _ _ _) (ag_of rfl) hC0 hzC hC1, ?_⟩; intro _ hM2; clear hM; have hM := hM2; clear hM2)
    | ((with_reducible refine gL_store (x := .tmp 44) hM ?_); refine ⟨_, _, _, rfl, rfl, hM.stores_one (.here _ _ _) (on_of rfl) (by have := hC0.eq; omega) rfl rfl, ?_⟩; intro _ hM2; clear hM; have hM := hM2; clear hM2)
    | ((with_reducible refine gL_buildEmpty (dst := some 45) hM ?_); refine ⟨_, _, _, (us_of rfl), (el_of rfl), ?_⟩; intro gO wA hM2; clear hM; have hM := hM2; clear hM2)
    | ((with_reducible refine gL_load (dst := some 48) ?_); refine ⟨_, _, rfl, hM.loads_all (.tail _ (.tail _ (.tail _ (.tail _ (.tail _ (.head _)))))) (ag_of rfl) hC0, ?_⟩))
  have hC10 : Len (imC xi (.slice (some ⟨gP, 0, none⟩) np NP)) 36 := imC_len hT0 _
  replace hM : Mem [] w0 wA [⟨some gO, 23, [], 0 * 1⟩, ⟨some g10, 27, imC xi (.slice (some ⟨gP, 0, none⟩) np NP), 36⟩, ⟨some gS, 5, (s ++ marks5).map B8, NS⟩, ⟨some gI, 5, (B ++ marks5).map B8, NI⟩, ⟨some gP, 5, (xi.pay ++ marks5).map B8, NP⟩, ⟨some g5, 27, imC xi p0, 36⟩] := hM
  refine (hrmake _ hM.done).mono ?_
  clear hrmake
  rintro _ w2 ⟨obW, mW, capW, rfl, hW1, hW2, hM3⟩
  obtain ⟨vW, hvW⟩ : ∃ vW, sl obW mW capW = vW := ⟨_, rfl⟩
  rw [hvW]
  have HVW : ∀ _ : Unit, sl obW mW capW = vW := fun _ => hvW
  clear hvW
  replace hM := hM.addMem hM3
  clear hM3
  simp only [List.cons_append, List.nil_append] at hM
  go_wp2_with fail
  refine (hrparse _ hM.done).mono ?_
  clear hrparse
  rintro _ w3 ⟨obY, nY, capY, rfl, hY1, hTy, hY2, hM3⟩
  replace hM := hM.addMem hM3
  clear hM3
  simp only [List.cons_append, List.nil_append] at hM
  have hC14 := imC_len hTy (sl obY nY capY)
  have hC14o := im_one y (sl obY nY capY) rfl
  go_wp2_with (first
    | ((with_reducible refine gL_alloc (dst := some 14) hM ?_); refine ⟨_, _, hz, ?_⟩; intro g14 _ hM2; clear hM; have hM := hM2; clear hM2)
    | ((with_reducible refine gL_alloc (dst := some 15) hM ?_); refine ⟨wrongC 0 0, _, (zr_of rfl), ?_⟩; intro g15 _ hM2; clear hM; have hM := hM2; clear hM2)
    | ((with_reducible refine gL_store (x := .tmp 14) hM ?_); refine ⟨_, _, _, rfl, rfl, hM.stores_all (.there _ (.here _ _ _)) (ag_of rfl) hC14 hzC hC14o, ?_⟩; intro _ hM2; clear hM; have hM := hM2; clear hM2)
    | ((with_reducible refine gL_store (x := .tmp 15) hM ?_); refine ⟨_, _, _, rfl, rfl, hM.stores_all (C1 := wrongC ec ek) (.here _ _ _) (ag_of rfl) rfl rfl (one_of_all rfl), ?_⟩; intro wB hM2; clear hM; have hM := hM2; clear hM2))
  replace hM : Mem [] w0 wB (⟨some gO, 23, ([] : List OR).map OR.v, 0 * 1⟩ :: ⟨some g15, 39, wrongC ec ek, 2⟩ :: ⟨some g14, 27, imC y (sl obY nY capY), 36⟩ :: ⟨obY, 5, y.pay.map B8, capY⟩ :: ⟨obW, 5, CM.map B8, capW⟩ :: ⟨some g10, 27, imC xi (.slice (some ⟨gP, 0, none⟩) np NP), 36⟩ :: ⟨some gS, 5, (s ++ marks5).map B8, NS⟩ :: ⟨some gI, 5, (B ++ marks5).map B8, NI⟩ :: ⟨some gP, 5, (xi.pay ++ marks5).map B8, NP⟩ :: ⟨some g5, 27, imC xi p0, 36⟩ :: ([] : List OR).map OR.b) := Mem.up [_, _, _, _] hM
  go_loopw [11, 16, 17, 18, 19, 20, 21, 22, 23] (fun ov i _ _ _ _ _ _ _ wr => ∃ (j gO capO : Nat) (rs : List OR), j ≤ 2 ∧ i = .int .i64 j ∧ ov = .slice (some ⟨gO, 0, none⟩) (3 * j) capO ∧ Len rs (3 * j) ∧ capO ≤ maxLen ∧ RGood (outs CM y.pay BB) rs ∧
    Mem [] w0 wr (⟨some gO, 23, rs.map OR.v, capO * 1⟩ :: ⟨some g15, 39, wrongC ec ek, 2⟩ :: ⟨some g14, 27, imC y (sl obY nY capY), 36⟩ :: ⟨obY, 5, y.pay.map B8, capY⟩ :: ⟨obW, 5, CM.map B8, capW⟩ :: ⟨some g10, 27, imC xi (.slice (some ⟨gP, 0, none⟩) np NP), 36⟩ :: ⟨some gS, 5, (s ++ marks5).map B8, NS⟩ :: ⟨some gI, 5, (B ++ marks5).map B8, NI⟩ :: ⟨some gP, 5, (xi.pay ++ marks5).map B8, NP⟩ :: ⟨some g5, 27, imC xi p0, 36⟩ :: rs.map OR.b)) (fun _ i _ _ _ _ _ _ _ _ => 2 - (intOf i).toNat)
  case atStart => exact ⟨0, gO, 0, [], by omega, rfl, rfl, rfl, by decide, (fun q r h => by simp at h), hM⟩
  case round =>
    clear hM
    obtain ⟨j, gO, capO, rs, hj, rfl, rfl, hrl, hcO, hG, hM⟩ := hrel
    by_cases hlt : j < 2
    · --[
      have hti : (j : Int) < (2 : Int) := by omega
      obtain ⟨VL, hVL⟩ : ∃ VL, VL = rs.map OR.v := ⟨_, rfl⟩
      obtain ⟨RL, hRL⟩ : ∃ RL, RL = rs.map OR.b := ⟨_, rfl⟩
      have hVl : Len VL (3 * j) := by rw [hVL]; exact Len.of (by rw [List.length_map, hrl.eq])
      rw [← hVL, ← hRL] at hM
      have HVL : ∀ _ : Unit, VL = rs.map OR.v := fun _ => hVL
      have HRL : ∀ _ : Unit, RL = rs.map OR.b := fun _ => hRL
      have HGR : ∀ _ : Unit, RGood (outs CM y.pay BB) rs := fun _ => hG
      have HRS : ∀ _ : Unit, Len rs (3 * j) := fun _ => hrl
      clear hVL hRL hG hrl
      go_wp2_with (first
        | ((with_reducible refine gL_load (dst := some 63) ?_); refine ⟨_, _, rfl, hM.loads_all (.tail _ (.tail _ (.tail _ (.tail _ (.tail _ (.head _)))))) (ag_of rfl) hC10, ?_⟩))
      refine (hmake _ _ _ (wide_bytes hM (.tail _ (.tail _ (.tail _ (.tail _ (.tail _ (.tail _ (.head _))))))) hsL hS1 hS2).1 (wide_bytes hM (.tail _ (.tail _ (.tail _ (.tail _ (.tail _ (.tail _ (.tail _ (.tail _ (.head _))))))))) hpL hP1 hP2).1).mono ?_
      rintro _ w4 ⟨r1, rfl, hk1, hr1, hM3⟩
      replace hM := hM.addMem hM3
      clear hM3
      simp only [List.cons_append, List.nil_append] at hM
      go_wp2_with fail
      refine (hparse _ _ (wide_bytes hM (.tail _ (.tail _ (.tail _ (.tail _ (.tail _ (.tail _ (.tail _ (.tail _ (.head _))))))))) hbL hI1 hI2).1).mono ?_
      rintro _ w5 ⟨r2, E, ev, rfl, -, hk2, hr2, htold, hM3⟩
      replace hM := hM.addMem hM3
      clear hM3
      simp only [List.cons_append, List.nil_append] at hM
      have hC19 := imC_len hTy r2.v
      have hC19o := im_one y r2.v rfl
      go_wp2_with (first
        | ((with_reducible refine gL_alloc (dst := some 19) hM ?_); refine ⟨_, _, hz, ?_⟩; intro g19 _ hM2; clear hM; have hM := hM2; clear hM2)
        | ((with_reducible refine gL_store (x := .tmp 19) hM ?_); refine ⟨_, _, _, rfl, rfl, hM.stores_all (.here _ _ _) (ag_of rfl) hC19 hzC hC19o, ?_⟩; intro wC hM2; clear hM; have hM := hM2; clear hM2))
      refine (htold _ (hM.holds _ (.tail _ (.tail _ (.head _)))) (hg.mem hM)).mono ?_
      rintro _ w6 ⟨rfl, B1⟩
      replace hM := hM.adds B1
      clear B1 htold
      go_wp2_with (first
        | ((with_reducible refine gL_alloc (dst := some 21) hM ?_); refine ⟨wrongC 0 0, _, (zr_of rfl), ?_⟩; intro g21 _ hM2; clear hM; have hM := hM2; clear hM2)
        | ((with_reducible refine gL_store (x := .tmp 21) hM ?_); refine ⟨_, _, _, rfl, rfl, hM.stores_all (C1 := wrongC ec ek) (.here _ _ _) (ag_of rfl) rfl rfl (one_of_all rfl), ?_⟩; intro wD hM2; clear hM; have hM := hM2; clear hM2))
      refine (hbody _ _ (wide_bytes hM (.tail _ (.tail _ (.tail _ (.tail _ (.tail _ (.tail _ (.tail _ (.tail _ (.tail _ (.tail _ (.tail _ (.tail _ (.head _))))))))))))) hbL hI1 hI2).1).mono ?_
      rintro _ w7 ⟨r3, rfl, hk3, hr3, hM3⟩
      replace hM := hM.addMem hM3
      clear hM3
      simp only [List.cons_append, List.nil_append] at hM
      have hB1 : Bytes w7 r1.v CM := hr1 _ (hM.holds _ (.tail _ (.tail _ (.tail _ (.tail _ (.tail _ (.head _)))))))
      have hBW : Bytes w7 vW CM := HVW () ▸ hM.whole (.tail _ (.tail _ (.tail _ (.tail _ (.tail _ (.tail _ (.tail _ (.tail _ (.tail _ (.tail _ (.head _))))))))))) hW1 (by simpa [maxLen] using hW2)
      have hB3 : Bytes w7 r3.v BB := hr3 _ (hM.holds _ (.head _))
      have hSame : ∀ w', Adds w7 w' → _ := fun w' hw => ref11_Same w' y r2.v (sl obY nY capY) (hr2 _ ((hM.adds hw).holds _ (.tail _ (.tail _ (.tail _ (.head _)))))) ((hM.adds hw).whole (.tail _ (.tail _ (.tail _ (.tail _ (.tail _ (.tail _ (.tail _ (.tail _ (.tail _ (.head _)))))))))) hY1 (by simpa [maxLen] using hY2)) hTy
      have hKs : ∀ w', Adds w7 w' → _ := fun w' hw => law11_kept w' gS ns NS v s hsL hsl (wide_bytes (hM.adds hw) (.tail _ (.tail _ (.tail _ (.tail _ (.tail _ (.tail _ (.tail _ (.tail _ (.tail _ (.tail _ (.tail _ (.tail _ (.head _))))))))))))) hsL hS1 hS2).1 (wide_bytes (hM.adds hw) (.tail _ (.tail _ (.tail _ (.tail _ (.tail _ (.tail _ (.tail _ (.tail _ (.tail _ (.tail _ (.tail _ (.tail _ (.head _))))))))))))) hsL hS1 hS2).2 ((hM.adds hw).bytes0 hs)
      have hKi : ∀ w', Adds w7 w' → _ := fun w' hw => law11_kept w' gI nb NI vb B hbL hbl (wide_bytes (hM.adds hw) (.tail _ (.tail _ (.tail _ (.tail _ (.tail _ (.tail _ (.tail _ (.tail _ (.tail _ (.tail _ (.tail _ (.tail _ (.tail _ (.head _)))))))))))))) hbL hI1 hI2).1 (wide_bytes (hM.adds hw) (.tail _ (.tail _ (.tail _ (.tail _ (.tail _ (.tail _ (.tail _ (.tail _ (.tail _ (.tail _ (.tail _ (.tail _ (.tail _ (.head _)))))))))))))) hbL hI1 hI2).2 ((hM.adds hw).bytes0 hb)
      have hKp : ∀ w', Adds w7 w' → _ := fun w' hw => law11_kept w' gP np NP p0 xi.pay hpL hpl (wide_bytes (hM.adds hw) (.tail _ (.tail _ (.tail _ (.tail _ (.tail _ (.tail _ (.tail _ (.tail _ (.tail _ (.tail _ (.tail _ (.tail _ (.tail _ (.tail _ (.head _))))))))))))))) hpL hP1 hP2).1 (wide_bytes (hM.adds hw) (.tail _ (.tail _ (.tail _ (.tail _ (.tail _ (.tail _ (.tail _ (.tail _ (.tail _ (.tail _ (.tail _ (.tail _ (.tail _ (.tail _ (.head _))))))))))))))) hpL hP1 hP2).2 ((hM.adds hw).bytes0 hp0)
      go_wp2_with fail
      try simp only [Act.put, List.setIfInBounds_toArray, List.set_cons_succ, List.set_cons_zero]
      refine wp_region_tail 52 (by decide) (fun c vals => ⟨#[(v : Value), (vb : Value), c 2, c 3, c 4, (Value.pointer (some ⟨g5, 0, none⟩) : Value), c 6, (Value.slice (some ⟨gS, 0, none⟩) ns NS : Value), (Value.slice (some ⟨gI, 0, none⟩) nb NI : Value), (Value.slice (some ⟨gP, 0, none⟩) np NP : Value), c 10, c 11, (vW : Value), (Value.int .i64 (km : Int) : Value), (Value.pointer (some ⟨g14, 0, none⟩) : Value), (Value.pointer (some ⟨g15, 0, none⟩) : Value), c 16, (r1.v : Value), (Value.int .i64 (km : Int) : Value), (Value.pointer (some ⟨g19, 0, none⟩) : Value), c 20, (Value.pointer (some ⟨g21, 0, none⟩) : Value), (Value.bool true : Value), (r3.v : Value), c 24, c 25, c 26, c 27, c 28, c 29, c 30, c 31, c 32, c 33, c 34, c 35, c 36, c 37, c 38, c 39, c 40, c 41, c 42, c 43, c 44, c 45, c 46, c 47, c 48, c 49, c 50, c 51, c 52, c 53, c 54, c 55, c 56, c 57, c 58, c 59, c 60, c 61, c 62, c 63, c 64, c 65, c 66, c 67, c 68, c 69, c 70, c 71, c 72, c 73, c 74, c 75, c 76, c 77, c 78, vals 0, vals 1, vals 2, vals 3, vals 4, vals 5, vals 6, vals 7, vals 8, vals 9, vals 10, vals 11, vals 12, vals 13, vals 14, vals 15, vals 16, vals 17, vals 18, vals 19, vals 20, vals 21, vals 22, vals 23, vals 24, vals 25, vals 26, vals 27, vals 28, vals 29, vals 30, vals 31, vals 32, vals 33, vals 34, vals 35, vals 36, vals 37, vals 38, vals 39, vals 40, vals 41, vals 42, vals 43, vals 44, vals 45, vals 46, vals 47, vals 48, vals 49, vals 50, vals 51, c 131, c 132, c 133, c 134, c 135, c 136, c 137, c 138, c 139, c 140, c 141, c 142, c 143, c 144, c 145, c 146, c 147, c 148, c 149, c 150, c 151, c 152, c 153, c 154, c 155, c 156, c 157, c 158, c 159, c 160, c 161, c 162, c 163, c 164, c 165, c 166, c 167, c 168, c 169, c 170, c 171, c 172, c 173, c 174, c 175, c 176, c 177, c 178, c 179, c 180, c 181, c 182, c 183, c 184, c 185, c 186, c 187, c 188, c 189, c 190, c 191, c 192, c 193, c 194, c 195, c 196, c 197, c 198, c 199, c 200, c 201, c 202, c 203, c 204, c 205, c 206, c 207, c 208, c 209, c 210, c 211, c 212, c 213, c 214, c 215, c 216, c 217, c 218, c 219, c 220, c 221], []⟩) (fun t => [undef, undef, _, _, _, undef, _, undef, undef, undef, _, _, undef, undef, undef, undef, _, undef, undef, undef, _, undef, undef, undef, _, _, _, _, _, _, _, _, _, _, _, _, _, _, _, _, _, _, _, _, _, _, _, _, _, _, _, _, _, _, _, _, _, _, _, _, _, _, _, _, _, _, _, _, _, _, _, _, _, _, _, _, _, _, _, undef, undef, undef, undef, undef, undef, undef, undef, undef, undef, undef, undef, undef, undef, undef, undef, undef, undef, undef, undef, undef, undef, undef, undef, undef, undef, undef, undef, undef, undef, undef, undef, undef, undef, undef, undef, undef, undef, undef, undef, undef, undef, undef, undef, undef, undef, undef, undef, undef, undef, undef, undef, _, _, _, _, _, _, _, _, _, _, _, _, _, _, _, _, _, _, _, _, _, _, _, _, _, _, _, _, _, _, _, _, _, _, _, _, _, _, _, _, _, _, _, _, _, _, _, _, _, _, _, _, _, _, _, _, _, _, _, _, _, _, _, _, _, _, _, _, _, _, _, _, _, _, _, _, _, _, _, _, _, _, _, _, _, _, _, _, _, _, _].getD t undef) (fun i => [_, _, _, _, _, _, _, _, _, _, _, _, _, _, _, _, _, _, _, _, _, _, _, _, _, _, _, _, _, _, _, _, _, _, _, _, _, _, _, _, _, _, _, _, _, _, _, _, _, _, _, _].getD i undef) (by kernel_rfl)
        [[], [], [0, 1], [0, 1, 2], [0, 1, 2, 3], [0, 1, 2, 3, 4], [0, 1, 2, 3], [0, 1, 2, 3, 6], [0, 1, 2, 3, 4, 5, 6, 7], [0, 1, 2, 3, 4, 5, 6, 7, 8], [0, 1, 2, 3, 4, 5, 6, 7, 8, 9], [0, 1, 2, 3, 4, 5, 6, 7, 8, 9, 10], [0, 1, 2, 3, 4, 5, 6, 7, 8, 9, 10, 11], [0, 1, 2, 3, 4, 5, 6, 7, 8, 9, 10, 11, 12], [0, 1, 2, 3, 4, 5, 6, 7, 8, 9, 10, 11, 12, 13], [0, 1, 2, 3, 4, 5, 6, 7, 8, 9, 10, 11, 12, 13, 14], [0, 1, 2, 3, 4, 5, 6, 7, 8, 9, 10, 11, 12, 13, 14], [0, 1, 2, 3, 4, 5, 6, 7, 8, 9, 10, 11, 12, 13, 14, 15, 16], [0, 1, 2, 3, 4, 5, 6, 7, 8, 9, 10, 11, 12, 13, 14, 15, 16, 17], [0, 1, 2, 3, 4, 5, 6, 7, 8, 9, 10, 11, 12, 13, 14, 15, 16, 17, 18], [0, 1, 2, 3, 4, 5, 6, 7, 8, 9, 10, 11, 12, 13, 14, 15, 16, 17, 18, 19], [0, 1, 2, 3, 4, 5, 6, 7, 8, 9, 10, 11, 12, 13, 14, 15, 16, 17, 18, 19], [0, 1, 2, 3, 4, 5, 6, 7, 8, 9, 10, 11, 12, 13, 14, 15, 16, 17, 18, 19, 20, 21], [0, 1, 2, 3, 4, 5, 6, 7, 8, 9, 10, 11, 12, 13, 14, 15, 16, 17, 18, 19, 20, 21, 22], [0, 1, 2, 3, 4, 5, 6, 7, 8, 9, 10, 11, 12, 13, 14, 15, 16, 17, 18, 19, 20, 21, 22, 23], [0, 1, 2, 3, 4, 5, 6, 7, 8, 9, 10, 11, 12, 13, 14, 15, 16, 17, 18, 19, 20, 21, 22, 23, 24], [0, 1, 2, 3, 4, 5, 6, 7, 8, 9, 10, 11, 12, 13, 14, 15, 16, 17, 18, 19, 20, 21, 22, 23, 24, 25], [0, 1, 2, 3, 4, 5, 6, 7, 8, 9, 10, 11, 12, 13, 14, 15, 16, 17, 18, 19, 20, 21, 22, 23, 24, 25, 26], [0, 1, 2, 3, 4, 5, 6, 7, 8, 9, 10, 11, 12, 13, 14, 15, 16, 17, 18, 19, 20, 21, 22, 23, 24, 25], [0, 1, 2, 3, 4, 5, 6, 7, 8, 9, 10, 11, 12, 13, 14, 15, 16, 17, 18, 19, 20, 21, 22, 23, 24, 25, 28], [0, 1, 2, 3, 4, 5, 6, 7, 8, 9, 10, 11, 12, 13, 14, 15, 16, 17, 18, 19, 20, 21, 22, 23, 24, 25, 28, 29], [0, 1, 2, 3, 4, 5, 6, 7, 8, 9, 10, 11, 12, 13, 14, 15, 16, 17, 18, 19, 20, 21, 22, 23, 24, 25, 26, 27, 28, 29, 30], [0, 1, 2, 3, 4, 5, 6, 7, 8, 9, 10, 11, 12, 13, 14, 15, 16, 17, 18, 19, 20, 21, 22, 23, 24, 25, 26, 27, 28, 29, 30, 31], [0, 1, 2, 3, 4, 5, 6, 7, 8, 9, 10, 11, 12, 13, 14, 15, 16, 17, 18, 19, 20, 21, 22, 23, 24, 25, 26, 27, 28, 29, 30, 31, 32], [0, 1, 2, 3, 4, 5, 6, 7, 8, 9, 10, 11, 12, 13, 14, 15, 16, 17, 18, 19, 20, 21, 22, 23, 24, 25, 26, 27, 28, 29, 30, 31, 32, 33], [0, 1, 2, 3, 4, 5, 6, 7, 8, 9, 10, 11, 12, 13, 14, 15, 16, 17, 18, 19, 20, 21, 22, 23, 24, 25, 26, 27, 28, 29, 30, 31, 32, 33], [0, 1, 2, 3, 4, 5, 6, 7, 8, 9, 10, 11, 12, 13, 14, 15, 16, 17, 18, 19, 20, 21, 22, 23, 24, 25, 26, 27, 28, 29, 30, 31, 32, 33, 34, 35], [0, 1, 2, 3, 4, 5, 6, 7, 8, 9, 10, 11, 12, 13, 14, 15, 16, 17, 18, 19, 20, 21, 22, 23, 24, 25, 26, 27, 28, 29, 30, 31, 32, 33, 34, 35, 36], [0, 1, 2, 3, 4, 5, 6, 7, 8, 9, 10, 11, 12, 13, 14, 15, 16, 17, 18, 19, 20, 21, 22, 23, 24, 25, 26, 27, 28, 29, 30, 31, 32, 33, 34, 35, 36, 37], [0, 1, 2, 3, 4, 5, 6, 7, 8, 9, 10, 11, 12, 13, 14, 15, 16, 17, 18, 19, 20, 21, 22, 23, 24, 25, 26, 27, 28, 29, 30, 31, 32, 33, 34, 35, 36, 37, 38], [0, 1, 2, 3, 4, 5, 6, 7, 8, 9, 10, 11, 12, 13, 14, 15, 16, 17, 18, 19, 20, 21, 22, 23, 24, 25, 26, 27, 28, 29, 30, 31, 32, 33, 34, 35, 36, 37, 38, 39], [0, 1, 2, 3, 4, 5, 6, 7, 8, 9, 10, 11, 12, 13, 14, 15, 16, 17, 18, 19, 20, 21, 22, 23, 24, 25, 26, 27, 28, 29, 30, 31, 32, 33, 34, 35, 36, 37, 38, 39], [0, 1, 2, 3, 4, 5, 6, 7, 8, 9, 10, 11, 12, 13, 14, 15, 16, 17, 18, 19, 20, 21, 22, 23, 24, 25, 26, 27, 28, 29, 30, 31, 32, 33, 34, 35, 36, 37, 38, 39, 40, 41], [0, 1, 2, 3, 4, 5, 6, 7, 8, 9, 10, 11, 12, 13, 14, 15, 16, 17, 18, 19, 20, 21, 22, 23, 24, 25, 26, 27, 28, 29, 30, 31, 32, 33, 34, 35, 36, 37, 38, 39, 40, 41, 42], [0, 1, 2, 3, 4, 5, 6, 7, 8, 9, 10, 11, 12, 13, 14, 15, 16, 17, 18, 19, 20, 21, 22, 23, 24, 25, 26, 27, 28, 29, 30, 31, 32, 33, 34, 35, 36, 37, 38, 39, 40, 41, 42, 43], [0, 1, 2, 3, 4, 5, 6, 7, 8, 9, 10, 11, 12, 13, 14, 15, 16, 17, 18, 19, 20, 21, 22, 23, 24, 25, 26, 27, 28, 29, 30, 31, 32, 33, 34, 35, 36, 37, 38, 39, 40, 41, 42, 43, 44], [0, 1, 2, 3, 4, 5, 6, 7, 8, 9, 10, 11, 12, 13, 14, 15, 16, 17, 18, 19, 20, 21, 22, 23, 24, 25, 26, 27, 28, 29, 30, 31, 32, 33, 34, 35, 36, 37, 38, 39, 40, 41, 42, 43, 44, 45], [0, 1, 2, 3, 4, 5, 6, 7, 8, 9, 10, 11, 12, 13, 14, 15, 16, 17, 18, 19, 20, 21, 22, 23, 24, 25, 26, 27, 28, 29, 30, 31, 32, 33, 34, 35, 36, 37, 38, 39, 40, 41, 42, 43, 44, 45], [0, 1, 2, 3, 4, 5, 6, 7, 8, 9, 10, 11, 12, 13, 14, 15, 16, 17, 18, 19, 20, 21, 22, 23, 24, 25, 26, 27, 28, 29, 30, 31, 32, 33, 34, 35, 36, 37, 38, 39, 40, 41, 42, 43, 44, 45, 47], [0, 1, 2, 3, 4, 5, 6, 7, 8, 9, 10, 11, 12, 13, 14, 15, 16, 17, 18, 19, 20, 21, 22, 23, 24, 25, 26, 27, 28, 29, 30, 31, 32, 33, 34, 35, 36, 37, 38, 39, 40, 41, 42, 43, 44, 45, 46, 47, 48], [0, 1, 2, 3, 4, 5, 6, 7, 8, 9, 10, 11, 12, 13, 14, 15, 16, 17, 18, 19, 20, 21, 22, 23, 24, 25, 26, 27, 28, 29, 30, 31, 32, 33, 34, 35, 36, 37, 38, 39, 40, 41, 42, 43, 44, 45, 46, 47, 48, 49], [0, 1, 2, 3, 4, 5, 6, 7, 8, 9, 10, 11, 12, 13, 14, 15, 16, 17, 18, 19, 20, 21, 22, 23, 24, 25, 26, 27, 28, 29, 30, 31, 32, 33, 34, 35, 36, 37, 38, 39, 40, 41, 42, 43, 44, 45, 46, 47, 48, 49, 50]] (by kernel_rfl) (by kernel_rfl) (fun _ => True) trivial
        [fun x _ => x = (Value.int .i64 (km : Int) : Value),
         fun x _ => x = (Value.int .i64 (km : Int) : Value),
         fun x _ => x = (Value.bool false : Value),
         fun x _ => x = (Value.bool false : Value),
         fun x _ => x = (r1.v : Value),
         fun x _ => x = (Value.string ⟨(CM).toArray⟩ : Value),
         fun x _ => x = (vW : Value),
         fun x _ => x = (Value.string ⟨(CM).toArray⟩ : Value),
         fun x _ => x = (Value.bool false : Value),
         fun x _ => x = (Value.bool false : Value),
         fun x _ => x = (Value.bool false : Value),
         fun x _ => x = (Value.bool true : Value),
         fun x _ => x = (Value.bool false : Value),
         fun x _ => x = (Value.bool false : Value),
         fun x _ => x = (Value.bool false : Value),
         fun x _ => x = (Value.agg (wrongC ec ek).toArray : Value),
         fun x _ => x = (Value.agg (wrongC ec ek).toArray : Value),
         fun x _ => x = (Value.bool false : Value),
         fun x _ => x = (Value.bool false : Value),
         fun x _ => x = (Value.bool false : Value),
         fun x _ => x = (Value.agg (imC y r2.v).toArray : Value),
         fun x _ => x = (Value.agg (imC y (sl obY nY capY)).toArray : Value),
         fun x _ => x = (Value.bool true : Value),
         fun x _ => x = (Value.bool false : Value),
         fun x _ => x = (Value.bool false : Value),
         fun x _ => x = (Value.bool false : Value),
         fun x _ => x = (r3.v : Value),
         fun x _ => x = (Value.string ⟨(BB).toArray⟩ : Value),
         fun x _ => x = (vb : Value),
         fun x w => Bytes w x (BB),
         fun x _ => x = (Value.string ⟨(BB).toArray⟩ : Value),
         fun x _ => x = (Value.bool false : Value),
         fun x _ => x = (Value.bool false : Value),
         fun x _ => x = (Value.bool false : Value),
         fun x _ => x = (Value.slice (some ⟨gS, 0, none⟩) ns NS : Value),
         fun x _ => x = (v : Value),
         fun x _ => x = (Value.bool true : Value),
         fun x _ => x = (Value.bool false : Value),
         fun x _ => x = (Value.bool false : Value),
         fun x _ => x = (Value.bool false : Value),
         fun x _ => x = (Value.slice (some ⟨gI, 0, none⟩) nb NI : Value),
         fun x _ => x = (vb : Value),
         fun x _ => x = (Value.bool true : Value),
         fun x _ => x = (Value.bool false : Value),
         fun x _ => x = (Value.bool false : Value),
         fun x _ => x = (Value.bool false : Value),
         fun x _ => x = (Value.slice (some ⟨gP, 0, none⟩) np NP : Value),
         fun x _ => x = (Value.pointer (some ⟨g5, 3, none⟩) : Value),
         fun x _ => x = (p0 : Value),
         fun x _ => x = (Value.bool true : Value),
         fun x _ => x = (Value.bool false : Value),
         fun x _ => x = (Value.bool false : Value)]
        ⟨fun _ _ _ h _ => h, fun _ _ _ h _ => h, fun _ _ _ h _ => h, fun _ _ _ h _ => h, fun _ _ _ h _ => h, fun _ _ _ h _ => h, fun _ _ _ h _ => h, fun _ _ _ h _ => h, fun _ _ _ h _ => h, fun _ _ _ h _ => h, fun _ _ _ h _ => h, fun _ _ _ h _ => h, fun _ _ _ h _ => h, fun _ _ _ h _ => h, fun _ _ _ h _ => h, fun _ _ _ h _ => h, fun _ _ _ h _ => h, fun _ _ _ h _ => h, fun _ _ _ h _ => h, fun _ _ _ h _ => h, fun _ _ _ h _ => h, fun _ _ _ h _ => h, fun _ _ _ h _ => h, fun _ _ _ h _ => h, fun _ _ _ h _ => h, fun _ _ _ h _ => h, fun _ _ _ h _ => h, fun _ _ _ h _ => h, fun _ _ _ h _ => h, fun _ _ _ h hb => h.adds hb, fun _ _ _ h _ => h, fun _ _ _ h _ => h, fun _ _ _ h _ => h, fun _ _ _ h _ => h, fun _ _ _ h _ => h, fun _ _ _ h _ => h, fun _ _ _ h _ => h, fun _ _ _ h _ => h, fun _ _ _ h _ => h, fun _ _ _ h _ => h, fun _ _ _ h _ => h, fun _ _ _ h _ => h, fun _ _ _ h _ => h, fun _ _ _ h _ => h, fun _ _ _ h _ => h, fun _ _ _ h _ => h, fun _ _ _ h _ => h, fun _ _ _ h _ => h, fun _ _ _ h _ => h, fun _ _ _ h _ => h, fun _ _ _ h _ => h, fun _ _ _ h _ => h, trivial⟩ []
        ⟨?_, ?_, ?_, ?_, ?_, ?_, ?_, ?_, ?_, ?_, ?_, ?_, ?_, ?_, ?_, ?_, ?_, ?_, ?_, ?_, ?_, ?_, ?_, ?_, ?_, ?_, ?_, ?_, ?_, ?_, ?_, ?_, ?_, ?_, ?_, ?_, ?_, ?_, ?_, ?_, ?_, ?_, ?_, ?_, ?_, ?_, ?_, ?_, ?_, ?_, ?_, ?_, trivial⟩ ?_
      · refine showA_op 0 (by intro _ _ _; kernel_rfl) rfl rfl (fun c vals w hC hD => ?_)
        clear hD
        refine makes1 (x := .tmp 18) (X := Value.int .i64 (km : Int)) (by kernel_rfl : _ = (Value.int .i64 (km : Int) : Value)) (fun ρ rc rf q18 => ?_)
        exact makes_move (.inl rfl) q18 ⟨Adds.refl _, rfl⟩
      · refine showA_op 1 (by intro _ _ _; kernel_rfl) rfl rfl (fun c vals w hC hD => ?_)
        clear hD
        refine makes1 (x := .tmp 13) (X := Value.int .i64 (km : Int)) (by kernel_rfl : _ = (Value.int .i64 (km : Int) : Value)) (fun ρ rc rf q13 => ?_)
        exact makes_move (.inl rfl) q13 ⟨Adds.refl _, rfl⟩
      · refine showA_op 2 (by intro _ _ _; kernel_rfl) rfl rfl (fun c vals w hC hD => ?_)
        have h0 : vals 0 = .int .i64 (km : Int) := hD 0 rfl
        have h1 : vals 1 = .int .i64 (km : Int) := hD 1 rfl
        clear hD
        refine makes2 (x := .tmp 79) (X := Value.int .i64 (km : Int)) (y := .tmp 80) (Y := Value.int .i64 (km : Int)) ((by kernel_rfl : _ = vals 0).trans h0) ((by kernel_rfl : _ = vals 1).trans h1) (fun ρ rc rf q79 q80 => ?_)
        clear h0 h1
        refine makes_value (v := Value.bool false) ?_ ⟨Adds.refl _, rfl⟩
        go_simp
        all_goals first | done | rfl | (rw [if_pos (by omega)]; refine congrArg (fun x => Result.ok (Next.value (Value.pointer (some ⟨_, x, none⟩))) _) ?_; omega) | (rw [wrapP_i64]; omega) | go_num | (simp; done) | (simp; omega) | (congr 1; first | rfl | (rw [wrapP_i64]; omega) | (congr 1; first | rfl | (simp; done) | (simp; omega) | (congr 2; omega) | go_num))
      · refine showA_op 3 (by intro _ _ _; kernel_rfl) rfl rfl (fun c vals w hC hD => ?_)
        have h2 : vals 2 = .bool false := hD 2 rfl
        clear hD
        refine makes1 (x := .tmp 81) (X := Value.bool false) ((by kernel_rfl : _ = vals 2).trans h2) (fun ρ rc rf q81 => ?_)
        clear h2
        exact makes_move (.inl rfl) q81 ⟨Adds.refl _, rfl⟩
      · refine showA_run 4 (by intro _ _ _; kernel_rfl) (j := 3) (want := false) rfl rfl rfl (by intro _ _; kernel_rfl) rfl (fun c vals w hC hD => ⟨hD 3 rfl, ?_⟩)
        clear hD
        refine makes1 (x := .tmp 17) (X := r1.v) (by kernel_rfl : _ = (r1.v : Value)) (fun ρ rc rf q17 => ?_)
        exact makes_move (.inl rfl) q17 ⟨Adds.refl _, rfl⟩
      · refine showA_run 5 (by intro _ _ _; kernel_rfl) (j := 3) (want := false) rfl rfl rfl (by intro _ _; kernel_rfl) rfl (fun c vals w hC hD => ⟨hD 3 rfl, ?_⟩)
        have h4 : vals 4 = r1.v := hD 4 rfl
        clear hD
        refine makes1 (x := .tmp 83) (X := r1.v) ((by kernel_rfl : _ = vals 4).trans h4) (fun ρ rc rf q83 => ?_)
        clear h4
        have hs := str_of (hB1.adds hC)
        refine makes_value (v := Value.string ⟨(CM).toArray⟩) ?_ ⟨Adds.refl _, rfl⟩
        go_simp
      · refine showA_run 6 (by intro _ _ _; kernel_rfl) (j := 3) (want := false) rfl rfl rfl (by intro _ _; kernel_rfl) rfl (fun c vals w hC hD => ⟨hD 3 rfl, ?_⟩)
        clear hD
        refine makes1 (x := .tmp 12) (X := vW) (by kernel_rfl : _ = (vW : Value)) (fun ρ rc rf q12 => ?_)
        exact makes_move (.inl rfl) q12 ⟨Adds.refl _, rfl⟩
      · refine showA_run 7 (by intro _ _ _; kernel_rfl) (j := 3) (want := false) rfl rfl rfl (by intro _ _; kernel_rfl) rfl (fun c vals w hC hD => ⟨hD 3 rfl, ?_⟩)
        have h6 : vals 6 = vW := hD 6 rfl
        clear hD
        refine makes1 (x := .tmp 85) (X := vW) ((by kernel_rfl : _ = vals 6).trans h6) (fun ρ rc rf q85 => ?_)
        clear h6
        have hs := str_of (hBW.adds hC)
        refine makes_value (v := Value.string ⟨(CM).toArray⟩) ?_ ⟨Adds.refl _, rfl⟩
        go_simp
      · refine showA_run 8 (by intro _ _ _; kernel_rfl) (j := 3) (want := false) rfl rfl rfl (by intro _ _; kernel_rfl) rfl (fun c vals w hC hD => ⟨hD 3 rfl, ?_⟩)
        have h5 : vals 5 = .string ⟨(CM).toArray⟩ := hD 5 rfl
        have h7 : vals 7 = .string ⟨(CM).toArray⟩ := hD 7 rfl
        clear hD
        refine makes2 (x := .tmp 84) (X := Value.string ⟨(CM).toArray⟩) (y := .tmp 86) (Y := Value.string ⟨(CM).toArray⟩) ((by kernel_rfl : _ = vals 5).trans h5) ((by kernel_rfl : _ = vals 7).trans h7) (fun ρ rc rf q84 q86 => ?_)
        clear h5 h7
        refine makes_value (v := Value.bool false) ?_ ⟨Adds.refl _, rfl⟩
        go_simp
        all_goals first | done | rfl | (rw [if_pos (by omega)]; refine congrArg (fun x => Result.ok (Next.value (Value.pointer (some ⟨_, x, none⟩))) _) ?_; omega) | (rw [wrapP_i64]; omega) | go_num | (simp; done) | (simp; omega) | (congr 1; first | rfl | (rw [wrapP_i64]; omega) | (congr 1; first | rfl | (simp; done) | (simp; omega) | (congr 2; omega) | go_num))
      · refine showA_op 9 (by intro _ _ _; kernel_rfl) rfl rfl (fun c vals w hC hD => ?_)
        have h3 : vals 3 = .bool false := hD 3 rfl
        have h8 : vals 8 = .bool false := hD 8 rfl
        clear hD
        refine makes2 (x := .tmp 82) (X := Value.bool false) (y := .tmp 87) (Y := Value.bool false) ((by kernel_rfl : _ = vals 3).trans h3) ((by kernel_rfl : _ = vals 8).trans h8) (fun ρ rc rf q82 q87 => ?_)
        clear h3 h8
        refine makes_value (v := Value.bool false) ?_ ⟨Adds.refl _, rfl⟩
        go_simp
        all_goals first | done | rfl | (rw [if_pos (by omega)]; refine congrArg (fun x => Result.ok (Next.value (Value.pointer (some ⟨_, x, none⟩))) _) ?_; omega) | (rw [wrapP_i64]; omega) | go_num | (simp; done) | (simp; omega) | (congr 1; first | rfl | (rw [wrapP_i64]; omega) | (congr 1; first | rfl | (simp; done) | (simp; omega) | (congr 2; omega) | go_num))
      · refine showA_op 10 (by intro _ _ _; kernel_rfl) rfl rfl (fun c vals w hC hD => ?_)
        have h9 : vals 9 = .bool false := hD 9 rfl
        clear hD
        refine makes1 (x := .tmp 88) (X := Value.bool false) ((by kernel_rfl : _ = vals 9).trans h9) (fun ρ rc rf q88 => ?_)
        clear h9
        exact makes_move (.inl rfl) q88 ⟨Adds.refl _, rfl⟩
      · refine showA_run 11 (by intro _ _ _; kernel_rfl) (j := 10) (want := false) rfl rfl rfl (by intro _ _; kernel_rfl) rfl (fun c vals w hC hD => ⟨hD 10 rfl, ?_⟩)
        clear hD
        refine makes1 (x := .tmp 22) (X := Value.bool true) (by kernel_rfl : _ = (Value.bool true : Value)) (fun ρ rc rf q22 => ?_)
        exact makes_move (.inl rfl) q22 ⟨Adds.refl _, rfl⟩
      · refine showA_run 12 (by intro _ _ _; kernel_rfl) (j := 10) (want := false) rfl rfl rfl (by intro _ _; kernel_rfl) rfl (fun c vals w hC hD => ⟨hD 10 rfl, ?_⟩)
        have h11 : vals 11 = .bool true := hD 11 rfl
        clear hD
        refine makes1 (x := .tmp 90) (X := Value.bool true) ((by kernel_rfl : _ = vals 11).trans h11) (fun ρ rc rf q90 => ?_)
        clear h11
        refine makes_value (v := Value.bool false) ?_ ⟨Adds.refl _, rfl⟩
        go_simp
        all_goals first | done | rfl | (rw [if_pos (by omega)]; refine congrArg (fun x => Result.ok (Next.value (Value.pointer (some ⟨_, x, none⟩))) _) ?_; omega) | (rw [wrapP_i64]; omega) | go_num | (simp; done) | (simp; omega) | (congr 1; first | rfl | (rw [wrapP_i64]; omega) | (congr 1; first | rfl | (simp; done) | (simp; omega) | (congr 2; omega) | go_num))
      · refine showA_op 13 (by intro _ _ _; kernel_rfl) rfl rfl (fun c vals w hC hD => ?_)
        have h10 : vals 10 = .bool false := hD 10 rfl
        have h12 : vals 12 = .bool false := hD 12 rfl
        clear hD
        refine makes2 (x := .tmp 89) (X := Value.bool false) (y := .tmp 91) (Y := Value.bool false) ((by kernel_rfl : _ = vals 10).trans h10) ((by kernel_rfl : _ = vals 12).trans h12) (fun ρ rc rf q89 q91 => ?_)
        clear h10 h12
        refine makes_value (v := Value.bool false) ?_ ⟨Adds.refl _, rfl⟩
        go_simp
        all_goals first | done | rfl | (rw [if_pos (by omega)]; refine congrArg (fun x => Result.ok (Next.value (Value.pointer (some ⟨_, x, none⟩))) _) ?_; omega) | (rw [wrapP_i64]; omega) | go_num | (simp; done) | (simp; omega) | (congr 1; first | rfl | (rw [wrapP_i64]; omega) | (congr 1; first | rfl | (simp; done) | (simp; omega) | (congr 2; omega) | go_num))
      · refine showA_op 14 (by intro _ _ _; kernel_rfl) rfl rfl (fun c vals w hC hD => ?_)
        have h13 : vals 13 = .bool false := hD 13 rfl
        clear hD
        refine makes1 (x := .tmp 92) (X := Value.bool false) ((by kernel_rfl : _ = vals 13).trans h13) (fun ρ rc rf q92 => ?_)
        clear h13
        exact makes_move (.inl rfl) q92 ⟨Adds.refl _, rfl⟩
      · refine showA_run 15 (by intro _ _ _; kernel_rfl) (j := 14) (want := false) rfl rfl rfl (by intro _ _; kernel_rfl) rfl (fun c vals w hC hD => ⟨hD 14 rfl, ?_⟩)
        clear hD
        refine makes1 (x := .tmp 21) (X := Value.pointer (some ⟨g21, 0, none⟩)) (by kernel_rfl : _ = (Value.pointer (some ⟨g21, 0, none⟩) : Value)) (fun ρ rc rf q21 => ?_)
        exact makes_load ((hM.adds hC).loads_all (.tail _ (.head _)) (ag_of rfl) rfl) rfl q21 ⟨Adds.refl _, rfl⟩
      · refine showA_run 16 (by intro _ _ _; kernel_rfl) (j := 14) (want := false) rfl rfl rfl (by intro _ _; kernel_rfl) rfl (fun c vals w hC hD => ⟨hD 14 rfl, ?_⟩)
        clear hD
        refine makes1 (x := .tmp 15) (X := Value.pointer (some ⟨g15, 0, none⟩)) (by kernel_rfl : _ = (Value.pointer (some ⟨g15, 0, none⟩) : Value)) (fun ρ rc rf q15 => ?_)
        exact makes_load ((hM.adds hC).loads_all (.tail _ (.tail _ (.tail _ (.tail _ (.tail _ (.tail _ (.tail _ (.head _)))))))) (ag_of rfl) rfl) rfl q15 ⟨Adds.refl _, rfl⟩
      · refine showA_run 17 (by intro _ _ _; kernel_rfl) (j := 14) (want := false) rfl rfl rfl (by intro _ _; kernel_rfl) rfl (fun c vals w hC hD => ⟨hD 14 rfl, ?_⟩)
        have h15 : vals 15 = .agg (wrongC ec ek).toArray := hD 15 rfl
        have h16 : vals 16 = .agg (wrongC ec ek).toArray := hD 16 rfl
        clear hD
        refine makes2 (x := .tmp 94) (X := Value.agg (wrongC ec ek).toArray) (y := .tmp 95) (Y := Value.agg (wrongC ec ek).toArray) ((by kernel_rfl : _ = vals 15).trans h15) ((by kernel_rfl : _ = vals 16).trans h16) (fun ρ rc rf q94 q95 => ?_)
        clear h15 h16
        exact makes_neq (wrong_self _ _) rfl q94 q95 ⟨Adds.refl _, rfl⟩
      · refine showA_op 18 (by intro _ _ _; kernel_rfl) rfl rfl (fun c vals w hC hD => ?_)
        have h14 : vals 14 = .bool false := hD 14 rfl
        have h17 : vals 17 = .bool false := hD 17 rfl
        clear hD
        refine makes2 (x := .tmp 93) (X := Value.bool false) (y := .tmp 96) (Y := Value.bool false) ((by kernel_rfl : _ = vals 14).trans h14) ((by kernel_rfl : _ = vals 17).trans h17) (fun ρ rc rf q93 q96 => ?_)
        clear h14 h17
        refine makes_value (v := Value.bool false) ?_ ⟨Adds.refl _, rfl⟩
        go_simp
        all_goals first | done | rfl | (rw [if_pos (by omega)]; refine congrArg (fun x => Result.ok (Next.value (Value.pointer (some ⟨_, x, none⟩))) _) ?_; omega) | (rw [wrapP_i64]; omega) | go_num | (simp; done) | (simp; omega) | (congr 1; first | rfl | (rw [wrapP_i64]; omega) | (congr 1; first | rfl | (simp; done) | (simp; omega) | (congr 2; omega) | go_num))
      · refine showA_op 19 (by intro _ _ _; kernel_rfl) rfl rfl (fun c vals w hC hD => ?_)
        have h18 : vals 18 = .bool false := hD 18 rfl
        clear hD
        refine makes1 (x := .tmp 97) (X := Value.bool false) ((by kernel_rfl : _ = vals 18).trans h18) (fun ρ rc rf q97 => ?_)
        clear h18
        exact makes_move (.inl rfl) q97 ⟨Adds.refl _, rfl⟩
      · refine showA_run 20 (by intro _ _ _; kernel_rfl) (j := 19) (want := false) rfl rfl rfl (by intro _ _; kernel_rfl) rfl (fun c vals w hC hD => ⟨hD 19 rfl, ?_⟩)
        clear hD
        refine makes1 (x := .tmp 19) (X := Value.pointer (some ⟨g19, 0, none⟩)) (by kernel_rfl : _ = (Value.pointer (some ⟨g19, 0, none⟩) : Value)) (fun ρ rc rf q19 => ?_)
        exact makes_load ((hM.adds hC).loads_all (.tail _ (.tail _ (.head _))) (ag_of rfl) hC19) rfl q19 ⟨Adds.refl _, rfl⟩
      · refine showA_run 21 (by intro _ _ _; kernel_rfl) (j := 19) (want := false) rfl rfl rfl (by intro _ _; kernel_rfl) rfl (fun c vals w hC hD => ⟨hD 19 rfl, ?_⟩)
        clear hD
        refine makes1 (x := .tmp 14) (X := Value.pointer (some ⟨g14, 0, none⟩)) (by kernel_rfl : _ = (Value.pointer (some ⟨g14, 0, none⟩) : Value)) (fun ρ rc rf q14 => ?_)
        exact makes_load ((hM.adds hC).loads_all (.tail _ (.tail _ (.tail _ (.tail _ (.tail _ (.tail _ (.tail _ (.tail _ (.head _))))))))) (ag_of rfl) hC14) rfl q14 ⟨Adds.refl _, rfl⟩
      · refine showA_run 22 (by intro _ _ _; kernel_rfl) (j := 19) (want := false) rfl rfl rfl (by intro _ _; kernel_rfl) rfl (fun c vals w hC hD => ⟨hD 19 rfl, ?_⟩)
        have h20 : vals 20 = .agg (imC y r2.v).toArray := hD 20 rfl
        have h21 : vals 21 = .agg (imC y (sl obY nY capY)).toArray := hD 21 rfl
        clear hD
        refine makes2 (x := .tmp 99) (X := Value.agg (imC y r2.v).toArray) (y := .tmp 100) (Y := Value.agg (imC y (sl obY nY capY)).toArray) ((by kernel_rfl : _ = vals 20).trans h20) ((by kernel_rfl : _ = vals 21).trans h21) (fun ρ rc rf q99 q100 => ?_)
        clear h20 h21
        refine makes_call (hSame _ hC) ?_ (by rintro e w' ⟨rfl, hb⟩; exact ⟨_, rfl, hb, rfl⟩)
        go_simp
      · refine showA_run 23 (by intro _ _ _; kernel_rfl) (j := 19) (want := false) rfl rfl rfl (by intro _ _; kernel_rfl) rfl (fun c vals w hC hD => ⟨hD 19 rfl, ?_⟩)
        have h22 : vals 22 = .bool true := hD 22 rfl
        clear hD
        refine makes1 (x := .tmp 101) (X := Value.bool true) ((by kernel_rfl : _ = vals 22).trans h22) (fun ρ rc rf q101 => ?_)
        clear h22
        refine makes_value (v := Value.bool false) ?_ ⟨Adds.refl _, rfl⟩
        go_simp
        all_goals first | done | rfl | (rw [if_pos (by omega)]; refine congrArg (fun x => Result.ok (Next.value (Value.pointer (some ⟨_, x, none⟩))) _) ?_; omega) | (rw [wrapP_i64]; omega) | go_num | (simp; done) | (simp; omega) | (congr 1; first | rfl | (rw [wrapP_i64]; omega) | (congr 1; first | rfl | (simp; done) | (simp; omega) | (congr 2; omega) | go_num))
      · refine showA_op 24 (by intro _ _ _; kernel_rfl) rfl rfl (fun c vals w hC hD => ?_)
        have h19 : vals 19 = .bool false := hD 19 rfl
        have h23 : vals 23 = .bool false := hD 23 rfl
        clear hD
        refine makes2 (x := .tmp 98) (X := Value.bool false) (y := .tmp 102) (Y := Value.bool false) ((by kernel_rfl : _ = vals 19).trans h19) ((by kernel_rfl : _ = vals 23).trans h23) (fun ρ rc rf q98 q102 => ?_)
        clear h19 h23
        refine makes_value (v := Value.bool false) ?_ ⟨Adds.refl _, rfl⟩
        go_simp
        all_goals first | done | rfl | (rw [if_pos (by omega)]; refine congrArg (fun x => Result.ok (Next.value (Value.pointer (some ⟨_, x, none⟩))) _) ?_; omega) | (rw [wrapP_i64]; omega) | go_num | (simp; done) | (simp; omega) | (congr 1; first | rfl | (rw [wrapP_i64]; omega) | (congr 1; first | rfl | (simp; done) | (simp; omega) | (congr 2; omega) | go_num))
      · refine showA_op 25 (by intro _ _ _; kernel_rfl) rfl rfl (fun c vals w hC hD => ?_)
        have h24 : vals 24 = .bool false := hD 24 rfl
        clear hD
        refine makes1 (x := .tmp 103) (X := Value.bool false) ((by kernel_rfl : _ = vals 24).trans h24) (fun ρ rc rf q103 => ?_)
        clear h24
        exact makes_move (.inl rfl) q103 ⟨Adds.refl _, rfl⟩
      · refine showA_run 26 (by intro _ _ _; kernel_rfl) (j := 25) (want := false) rfl rfl rfl (by intro _ _; kernel_rfl) rfl (fun c vals w hC hD => ⟨hD 25 rfl, ?_⟩)
        clear hD
        refine makes1 (x := .tmp 23) (X := r3.v) (by kernel_rfl : _ = (r3.v : Value)) (fun ρ rc rf q23 => ?_)
        exact makes_move (.inl rfl) q23 ⟨Adds.refl _, rfl⟩
      · refine showA_run 27 (by intro _ _ _; kernel_rfl) (j := 25) (want := false) rfl rfl rfl (by intro _ _; kernel_rfl) rfl (fun c vals w hC hD => ⟨hD 25 rfl, ?_⟩)
        have h26 : vals 26 = r3.v := hD 26 rfl
        clear hD
        refine makes1 (x := .tmp 105) (X := r3.v) ((by kernel_rfl : _ = vals 26).trans h26) (fun ρ rc rf q105 => ?_)
        clear h26
        have hs := str_of (hB3.adds hC)
        refine makes_value (v := Value.string ⟨(BB).toArray⟩) ?_ ⟨Adds.refl _, rfl⟩
        go_simp
      · refine showA_run 28 (by intro _ _ _; kernel_rfl) (j := 25) (want := false) rfl rfl rfl (by intro _ _; kernel_rfl) rfl (fun c vals w hC hD => ⟨hD 25 rfl, ?_⟩)
        clear hD
        refine makes1 (x := .tmp 1) (X := vb) (by kernel_rfl : _ = (vb : Value)) (fun ρ rc rf q1 => ?_)
        exact makes_move (.inl rfl) q1 ⟨Adds.refl _, rfl⟩
      · refine showA_run 29 (by intro _ _ _; kernel_rfl) (j := 25) (want := false) rfl rfl rfl (by intro _ _; kernel_rfl) rfl (fun c vals w hC hD => ⟨hD 25 rfl, ?_⟩)
        have h28 : vals 28 = vb := hD 28 rfl
        clear hD
        refine makes1 (x := .tmp 107) (X := vb) ((by kernel_rfl : _ = vals 28).trans h28) (fun ρ rc rf q107 => ?_)
        clear h28
        refine makes_call (hrbody _ (hM.adds hC).done) ?_ (by rintro e w' ⟨v', rfl, hb1, hb2⟩; exact ⟨_, rfl, hb2, hb1⟩)
        go_simp
      · refine showA_run 30 (by intro _ _ _; kernel_rfl) (j := 25) (want := false) rfl rfl rfl (by intro _ _; kernel_rfl) rfl (fun c vals w hC hD => ⟨hD 25 rfl, ?_⟩)
        have h29 : Bytes w (vals 29) (BB) := hD 29 rfl
        clear hD
        refine makes1 (x := .tmp 108) (X := vals 29) (by kernel_rfl : _ = vals 29) (fun ρ rc rf q108 => ?_)
        have hs := str_of h29
        refine makes_value (v := Value.string ⟨(BB).toArray⟩) ?_ ⟨Adds.refl _, rfl⟩
        go_simp
      · refine showA_run 31 (by intro _ _ _; kernel_rfl) (j := 25) (want := false) rfl rfl rfl (by intro _ _; kernel_rfl) rfl (fun c vals w hC hD => ⟨hD 25 rfl, ?_⟩)
        have h27 : vals 27 = .string ⟨(BB).toArray⟩ := hD 27 rfl
        have h30 : vals 30 = .string ⟨(BB).toArray⟩ := hD 30 rfl
        clear hD
        refine makes2 (x := .tmp 106) (X := Value.string ⟨(BB).toArray⟩) (y := .tmp 109) (Y := Value.string ⟨(BB).toArray⟩) ((by kernel_rfl : _ = vals 27).trans h27) ((by kernel_rfl : _ = vals 30).trans h30) (fun ρ rc rf q106 q109 => ?_)
        clear h27 h30
        refine makes_value (v := Value.bool false) ?_ ⟨Adds.refl _, rfl⟩
        go_simp
        all_goals first | done | rfl | (rw [if_pos (by omega)]; refine congrArg (fun x => Result.ok (Next.value (Value.pointer (some ⟨_, x, none⟩))) _) ?_; omega) | (rw [wrapP_i64]; omega) | go_num | (simp; done) | (simp; omega) | (congr 1; first | rfl | (rw [wrapP_i64]; omega) | (congr 1; first | rfl | (simp; done) | (simp; omega) | (congr 2; omega) | go_num))
      · refine showA_op 32 (by intro _ _ _; kernel_rfl) rfl rfl (fun c vals w hC hD => ?_)
        have h25 : vals 25 = .bool false := hD 25 rfl
        have h31 : vals 31 = .bool false := hD 31 rfl
        clear hD
        refine makes2 (x := .tmp 104) (X := Value.bool false) (y := .tmp 110) (Y := Value.bool false) ((by kernel_rfl : _ = vals 25).trans h25) ((by kernel_rfl : _ = vals 31).trans h31) (fun ρ rc rf q104 q110 => ?_)
        clear h25 h31
        refine makes_value (v := Value.bool false) ?_ ⟨Adds.refl _, rfl⟩
        go_simp
        all_goals first | done | rfl | (rw [if_pos (by omega)]; refine congrArg (fun x => Result.ok (Next.value (Value.pointer (some ⟨_, x, none⟩))) _) ?_; omega) | (rw [wrapP_i64]; omega) | go_num | (simp; done) | (simp; omega) | (congr 1; first | rfl | (rw [wrapP_i64]; omega) | (congr 1; first | rfl | (simp; done) | (simp; omega) | (congr 2; omega) | go_num))
      · refine showA_op 33 (by intro _ _ _; kernel_rfl) rfl rfl (fun c vals w hC hD => ?_)
        have h32 : vals 32 = .bool false := hD 32 rfl
        clear hD
        refine makes1 (x := .tmp 111) (X := Value.bool false) ((by kernel_rfl : _ = vals 32).trans h32) (fun ρ rc rf q111 => ?_)
        clear h32
        exact makes_move (.inl rfl) q111 ⟨Adds.refl _, rfl⟩
      · refine showA_run 34 (by intro _ _ _; kernel_rfl) (j := 33) (want := false) rfl rfl rfl (by intro _ _; kernel_rfl) rfl (fun c vals w hC hD => ⟨hD 33 rfl, ?_⟩)
        clear hD
        refine makes1 (x := .tmp 7) (X := Value.slice (some ⟨gS, 0, none⟩) ns NS) (by kernel_rfl : _ = (Value.slice (some ⟨gS, 0, none⟩) ns NS : Value)) (fun ρ rc rf q7 => ?_)
        exact makes_move (.inl rfl) q7 ⟨Adds.refl _, rfl⟩
      · refine showA_run 35 (by intro _ _ _; kernel_rfl) (j := 33) (want := false) rfl rfl rfl (by intro _ _; kernel_rfl) rfl (fun c vals w hC hD => ⟨hD 33 rfl, ?_⟩)
        clear hD
        refine makes1 (x := .tmp 0) (X := v) (by kernel_rfl : _ = (v : Value)) (fun ρ rc rf q0 => ?_)
        exact makes_move (.inl rfl) q0 ⟨Adds.refl _, rfl⟩
      · refine showA_run 36 (by intro _ _ _; kernel_rfl) (j := 33) (want := false) rfl rfl rfl (by intro _ _; kernel_rfl) rfl (fun c vals w hC hD => ⟨hD 33 rfl, ?_⟩)
        have h34 : vals 34 = .slice (some ⟨gS, 0, none⟩) ns NS := hD 34 rfl
        have h35 : vals 35 = v := hD 35 rfl
        clear hD
        refine makes2 (x := .tmp 113) (X := Value.slice (some ⟨gS, 0, none⟩) ns NS) (y := .tmp 114) (Y := v) ((by kernel_rfl : _ = vals 34).trans h34) ((by kernel_rfl : _ = vals 35).trans h35) (fun ρ rc rf q113 q114 => ?_)
        clear h34 h35
        refine makes_call (hKs _ hC) ?_ (by rintro e w' ⟨rfl, hb⟩; exact ⟨_, rfl, hb, rfl⟩)
        go_simp
      · refine showA_run 37 (by intro _ _ _; kernel_rfl) (j := 33) (want := false) rfl rfl rfl (by intro _ _; kernel_rfl) rfl (fun c vals w hC hD => ⟨hD 33 rfl, ?_⟩)
        have h36 : vals 36 = .bool true := hD 36 rfl
        clear hD
        refine makes1 (x := .tmp 115) (X := Value.bool true) ((by kernel_rfl : _ = vals 36).trans h36) (fun ρ rc rf q115 => ?_)
        clear h36
        refine makes_value (v := Value.bool false) ?_ ⟨Adds.refl _, rfl⟩
        go_simp
        all_goals first | done | rfl | (rw [if_pos (by omega)]; refine congrArg (fun x => Result.ok (Next.value (Value.pointer (some ⟨_, x, none⟩))) _) ?_; omega) | (rw [wrapP_i64]; omega) | go_num | (simp; done) | (simp; omega) | (congr 1; first | rfl | (rw [wrapP_i64]; omega) | (congr 1; first | rfl | (simp; done) | (simp; omega) | (congr 2; omega) | go_num))
      · refine showA_op 38 (by intro _ _ _; kernel_rfl) rfl rfl (fun c vals w hC hD => ?_)
        have h33 : vals 33 = .bool false := hD 33 rfl
        have h37 : vals 37 = .bool false := hD 37 rfl
        clear hD
        refine makes2 (x := .tmp 112) (X := Value.bool false) (y := .tmp 116) (Y := Value.bool false) ((by kernel_rfl : _ = vals 33).trans h33) ((by kernel_rfl : _ = vals 37).trans h37) (fun ρ rc rf q112 q116 => ?_)
        clear h33 h37
        refine makes_value (v := Value.bool false) ?_ ⟨Adds.refl _, rfl⟩
        go_simp
        all_goals first | done | rfl | (rw [if_pos (by omega)]; refine congrArg (fun x => Result.ok (Next.value (Value.pointer (some ⟨_, x, none⟩))) _) ?_; omega) | (rw [wrapP_i64]; omega) | go_num | (simp; done) | (simp; omega) | (congr 1; first | rfl | (rw [wrapP_i64]; omega) | (congr 1; first | rfl | (simp; done) | (simp; omega) | (congr 2; omega) | go_num))
      · refine showA_op 39 (by intro _ _ _; kernel_rfl) rfl rfl (fun c vals w hC hD => ?_)
        have h38 : vals 38 = .bool false := hD 38 rfl
        clear hD
        refine makes1 (x := .tmp 117) (X := Value.bool false) ((by kernel_rfl : _ = vals 38).trans h38) (fun ρ rc rf q117 => ?_)
        clear h38
        exact makes_move (.inl rfl) q117 ⟨Adds.refl _, rfl⟩
      · refine showA_run 40 (by intro _ _ _; kernel_rfl) (j := 39) (want := false) rfl rfl rfl (by intro _ _; kernel_rfl) rfl (fun c vals w hC hD => ⟨hD 39 rfl, ?_⟩)
        clear hD
        refine makes1 (x := .tmp 8) (X := Value.slice (some ⟨gI, 0, none⟩) nb NI) (by kernel_rfl : _ = (Value.slice (some ⟨gI, 0, none⟩) nb NI : Value)) (fun ρ rc rf q8 => ?_)
        exact makes_move (.inl rfl) q8 ⟨Adds.refl _, rfl⟩
      · refine showA_run 41 (by intro _ _ _; kernel_rfl) (j := 39) (want := false) rfl rfl rfl (by intro _ _; kernel_rfl) rfl (fun c vals w hC hD => ⟨hD 39 rfl, ?_⟩)
        clear hD
        refine makes1 (x := .tmp 1) (X := vb) (by kernel_rfl : _ = (vb : Value)) (fun ρ rc rf q1 => ?_)
        exact makes_move (.inl rfl) q1 ⟨Adds.refl _, rfl⟩
      · refine showA_run 42 (by intro _ _ _; kernel_rfl) (j := 39) (want := false) rfl rfl rfl (by intro _ _; kernel_rfl) rfl (fun c vals w hC hD => ⟨hD 39 rfl, ?_⟩)
        have h40 : vals 40 = .slice (some ⟨gI, 0, none⟩) nb NI := hD 40 rfl
        have h41 : vals 41 = vb := hD 41 rfl
        clear hD
        refine makes2 (x := .tmp 119) (X := Value.slice (some ⟨gI, 0, none⟩) nb NI) (y := .tmp 120) (Y := vb) ((by kernel_rfl : _ = vals 40).trans h40) ((by kernel_rfl : _ = vals 41).trans h41) (fun ρ rc rf q119 q120 => ?_)
        clear h40 h41
        refine makes_call (hKi _ hC) ?_ (by rintro e w' ⟨rfl, hb⟩; exact ⟨_, rfl, hb, rfl⟩)
        go_simp
      · refine showA_run 43 (by intro _ _ _; kernel_rfl) (j := 39) (want := false) rfl rfl rfl (by intro _ _; kernel_rfl) rfl (fun c vals w hC hD => ⟨hD 39 rfl, ?_⟩)
        have h42 : vals 42 = .bool true := hD 42 rfl
        clear hD
        refine makes1 (x := .tmp 121) (X := Value.bool true) ((by kernel_rfl : _ = vals 42).trans h42) (fun ρ rc rf q121 => ?_)
        clear h42
        refine makes_value (v := Value.bool false) ?_ ⟨Adds.refl _, rfl⟩
        go_simp
        all_goals first | done | rfl | (rw [if_pos (by omega)]; refine congrArg (fun x => Result.ok (Next.value (Value.pointer (some ⟨_, x, none⟩))) _) ?_; omega) | (rw [wrapP_i64]; omega) | go_num | (simp; done) | (simp; omega) | (congr 1; first | rfl | (rw [wrapP_i64]; omega) | (congr 1; first | rfl | (simp; done) | (simp; omega) | (congr 2; omega) | go_num))
      · refine showA_op 44 (by intro _ _ _; kernel_rfl) rfl rfl (fun c vals w hC hD => ?_)
        have h39 : vals 39 = .bool false := hD 39 rfl
        have h43 : vals 43 = .bool false := hD 43 rfl
        clear hD
        refine makes2 (x := .tmp 118) (X := Value.bool false) (y := .tmp 122) (Y := Value.bool false) ((by kernel_rfl : _ = vals 39).trans h39) ((by kernel_rfl : _ = vals 43).trans h43) (fun ρ rc rf q118 q122 => ?_)
        clear h39 h43
        refine makes_value (v := Value.bool false) ?_ ⟨Adds.refl _, rfl⟩
        go_simp
        all_goals first | done | rfl | (rw [if_pos (by omega)]; refine congrArg (fun x => Result.ok (Next.value (Value.pointer (some ⟨_, x, none⟩))) _) ?_; omega) | (rw [wrapP_i64]; omega) | go_num | (simp; done) | (simp; omega) | (congr 1; first | rfl | (rw [wrapP_i64]; omega) | (congr 1; first | rfl | (simp; done) | (simp; omega) | (congr 2; omega) | go_num))
      · refine showA_op 45 (by intro _ _ _; kernel_rfl) rfl rfl (fun c vals w hC hD => ?_)
        have h44 : vals 44 = .bool false := hD 44 rfl
        clear hD
        refine makes1 (x := .tmp 123) (X := Value.bool false) ((by kernel_rfl : _ = vals 44).trans h44) (fun ρ rc rf q123 => ?_)
        clear h44
        exact makes_move (.inl rfl) q123 ⟨Adds.refl _, rfl⟩
      · refine showA_run 46 (by intro _ _ _; kernel_rfl) (j := 45) (want := false) rfl rfl rfl (by intro _ _; kernel_rfl) rfl (fun c vals w hC hD => ⟨hD 45 rfl, ?_⟩)
        clear hD
        refine makes1 (x := .tmp 9) (X := Value.slice (some ⟨gP, 0, none⟩) np NP) (by kernel_rfl : _ = (Value.slice (some ⟨gP, 0, none⟩) np NP : Value)) (fun ρ rc rf q9 => ?_)
        exact makes_move (.inl rfl) q9 ⟨Adds.refl _, rfl⟩
      · refine showA_run 47 (by intro _ _ _; kernel_rfl) (j := 45) (want := false) rfl rfl rfl (by intro _ _; kernel_rfl) rfl (fun c vals w hC hD => ⟨hD 45 rfl, ?_⟩)
        clear hD
        refine makes1 (x := .tmp 5) (X := Value.pointer (some ⟨g5, 0, none⟩)) (by kernel_rfl : _ = (Value.pointer (some ⟨g5, 0, none⟩) : Value)) (fun ρ rc rf q5 => ?_)
        refine makes_value (v := Value.pointer (some ⟨g5, 3, none⟩)) ?_ ⟨Adds.refl _, rfl⟩
        go_simp
        all_goals first | done | rfl | (rw [if_pos (by omega)]; refine congrArg (fun x => Result.ok (Next.value (Value.pointer (some ⟨_, x, none⟩))) _) ?_; omega) | (rw [wrapP_i64]; omega) | go_num | (simp; done) | (simp; omega) | (congr 1; first | rfl | (rw [wrapP_i64]; omega) | (congr 1; first | rfl | (simp; done) | (simp; omega) | (congr 2; omega) | go_num))
      · refine showA_run 48 (by intro _ _ _; kernel_rfl) (j := 45) (want := false) rfl rfl rfl (by intro _ _; kernel_rfl) rfl (fun c vals w hC hD => ⟨hD 45 rfl, ?_⟩)
        have h47 : vals 47 = .pointer (some ⟨g5, 3, none⟩) := hD 47 rfl
        clear hD
        refine makes1 (x := .tmp 126) (X := Value.pointer (some ⟨g5, 3, none⟩)) ((by kernel_rfl : _ = vals 47).trans h47) (fun ρ rc rf q126 => ?_)
        clear h47
        exact makes_load ((hM.adds hC).loads_one (.tail _ (.tail _ (.tail _ (.tail _ (.tail _ (.tail _ (.tail _ (.tail _ (.tail _ (.tail _ (.tail _ (.tail _ (.tail _ (.tail _ (.tail _ (.head _)))))))))))))))) (on_of rfl) rfl) rfl q126 ⟨Adds.refl _, rfl⟩
      · refine showA_run 49 (by intro _ _ _; kernel_rfl) (j := 45) (want := false) rfl rfl rfl (by intro _ _; kernel_rfl) rfl (fun c vals w hC hD => ⟨hD 45 rfl, ?_⟩)
        have h46 : vals 46 = .slice (some ⟨gP, 0, none⟩) np NP := hD 46 rfl
        have h48 : vals 48 = p0 := hD 48 rfl
        clear hD
        refine makes2 (x := .tmp 125) (X := Value.slice (some ⟨gP, 0, none⟩) np NP) (y := .tmp 127) (Y := p0) ((by kernel_rfl : _ = vals 46).trans h46) ((by kernel_rfl : _ = vals 48).trans h48) (fun ρ rc rf q125 q127 => ?_)
        clear h46 h48
        refine makes_call (hKp _ hC) ?_ (by rintro e w' ⟨rfl, hb⟩; exact ⟨_, rfl, hb, rfl⟩)
        go_simp
      · refine showA_run 50 (by intro _ _ _; kernel_rfl) (j := 45) (want := false) rfl rfl rfl (by intro _ _; kernel_rfl) rfl (fun c vals w hC hD => ⟨hD 45 rfl, ?_⟩)
        have h49 : vals 49 = .bool true := hD 49 rfl
        clear hD
        refine makes1 (x := .tmp 128) (X := Value.bool true) ((by kernel_rfl : _ = vals 49).trans h49) (fun ρ rc rf q128 => ?_)
        clear h49
        refine makes_value (v := Value.bool false) ?_ ⟨Adds.refl _, rfl⟩
        go_simp
        all_goals first | done | rfl | (rw [if_pos (by omega)]; refine congrArg (fun x => Result.ok (Next.value (Value.pointer (some ⟨_, x, none⟩))) _) ?_; omega) | (rw [wrapP_i64]; omega) | go_num | (simp; done) | (simp; omega) | (congr 1; first | rfl | (rw [wrapP_i64]; omega) | (congr 1; first | rfl | (simp; done) | (simp; omega) | (congr 2; omega) | go_num))
      · refine showA_op 51 (by intro _ _ _; kernel_rfl) rfl rfl (fun c vals w hC hD => ?_)
        have h45 : vals 45 = .bool false := hD 45 rfl
        have h50 : vals 50 = .bool false := hD 50 rfl
        clear hD
        refine makes2 (x := .tmp 124) (X := Value.bool false) (y := .tmp 129) (Y := Value.bool false) ((by kernel_rfl : _ = vals 45).trans h45) ((by kernel_rfl : _ = vals 50).trans h50) (fun ρ rc rf q124 q129 => ?_)
        clear h45 h50
        refine makes_value (v := Value.bool false) ?_ ⟨Adds.refl _, rfl⟩
        go_simp
        all_goals first | done | rfl | (rw [if_pos (by omega)]; refine congrArg (fun x => Result.ok (Next.value (Value.pointer (some ⟨_, x, none⟩))) _) ?_; omega) | (rw [wrapP_i64]; omega) | go_num | (simp; done) | (simp; omega) | (congr 1; first | rfl | (rw [wrapP_i64]; omega) | (congr 1; first | rfl | (simp; done) | (simp; omega) | (congr 2; omega) | go_num))
      intro vals w' hC hΦ hne
      have h51 : vals 51 = .bool false := hΦ 51 (by decide)
      clear hΦ hne
      simp only [List.getD_eq_getElem?_getD, List.getElem?_cons_zero, List.getElem?_cons_succ, Option.getD_some, List.drop_succ_cons, List.drop_zero]
      simp only [h51]
      clear h51
      try simp only [tuple_undef]
      replace hM := hM.adds hC
      clear hC hB1 hBW hB3 hSame hKs hKi hKp
      go_wp2_with (first
        | ((with_reducible refine gL_load (dst := some 134) ?_); refine ⟨_, _, rfl, hM.loads_one (.tail _ (.tail _ (.head _))) (on_of rfl) rfl, ?_⟩)
        | ((with_reducible refine gL_bs3 (dst := some 136) hM ?_); refine ⟨_, _, r1.v, r2.v, r3.v, (us_of rfl), (el_of rfl), rfl, rfl, rfl, rfl, rfl, rfl, ?_⟩; intro g136 _ hM2; clear hM; have hM := hM2; clear hM2)
        | ((with_reducible refine gL_pushes (dst := some 137) hM ?_); refine ⟨_, _, some gO, 3 * j, 3, capO, _, _, VL, [r1.v, r2.v, r3.v], _, rfl, rfl, rfl, (us_of rfl), (el_of rfl), hM.src (.head _), (fun _ _ => .there _ (.there _ (.there _ (.there _ (.there _ (.there _ (.there _ (.here _ _ _)))))))), hVl, rfl, (fun v hv => by simp at hv; rcases hv with rfl | rfl | rfl <;> rfl), hcO, (by simp only [maxLen]; omega), (by omega), ?_⟩; intro oO' cO' _ hM2 hO1 hO2; obtain ⟨gO', rfl⟩ := hM2.some_of (.tail _ (.tail _ (.tail _ (.tail _ (.tail _ (.tail _ (.tail _ (.head _)))))))) (n := 3 * j + 3) (Len.of (by rw [List.length_append, hVl.eq]; rfl)) (by omega); clear hM; have hM := hM2.drop; clear hM2))
      replace hM := (Mem.up [_, _] ((Mem.up [_] ((Mem.up [_] hM).drop)).drop)).drop
      have hM2 := hM.perm (perm3e _ _ _ _)
      simp only [List.cons_append] at hM2
      rw [HRL (), HVL (), show rs.map OR.b ++ [r1.b, r2.b, r3.b] = (rs ++ [r1, r2, r3]).map OR.b by rw [List.map_append]; rfl, show rs.map OR.v ++ [r1.v, r2.v, r3.v] = (rs ++ [r1, r2, r3]).map OR.v by rw [List.map_append]; rfl] at hM2
      go_roundw
      case rel => exact ⟨j + 1, gO', cO', rs ++ [r1, r2, r3], by omega, by go_num, rfl, Len.of (by rw [List.length_append, (HRS ()).eq]; show 3 * j + 3 = 3 * (j + 1); omega), hO2, (HGR ()).next (HRS ()) hk1 hk2 hk3 hr1 hr2 hr3, hM2⟩
      case measure => simp [intOf]; omega
      --]
    · obtain rfl : j = 2 := by omega
      have hti : ¬ ((2 : Nat) : Int) < (2 : Int) := by omega
      obtain ⟨VL, hVL⟩ : ∃ VL, VL = rs.map OR.v := ⟨_, rfl⟩
      obtain ⟨RL, hRL⟩ : ∃ RL, RL = rs.map OR.b := ⟨_, rfl⟩
      rw [← hVL, ← hRL] at hM
      have HVL : ∀ _ : Unit, VL = rs.map OR.v := fun _ => hVL
      have HRL : ∀ _ : Unit, RL = rs.map OR.b := fun _ => hRL
      have HGR : ∀ _ : Unit, RGood (outs CM y.pay BB) rs := fun _ => hG
      have HRS : ∀ _ : Unit, Len rs 6 := fun _ => hrl
      clear hVL hRL hG hrl hmake hbody
      go_wp2_with fail
      go_loopw [24, 140] (fun _ ix wr => ∃ (q1 : Nat) (X1 : List UInt8), q1 ≤ ns ∧ ix = .int .i64 q1 ∧ Len X1 (ns + 5) ∧ Mem [] w0 wr (⟨some gO, 23, VL, capO * 1⟩ :: ⟨some g15, 39, wrongC ec ek, 2⟩ :: ⟨some g14, 27, imC y (sl obY nY capY), 36⟩ :: ⟨obY, 5, y.pay.map B8, capY⟩ :: ⟨obW, 5, CM.map B8, capW⟩ :: ⟨some g10, 27, imC xi (.slice (some ⟨gP, 0, none⟩) np NP), 36⟩ :: ⟨some gS, 5, X1.map B8, NS⟩ :: ⟨some gI, 5, (B ++ marks5).map B8, NI⟩ :: ⟨some gP, 5, (xi.pay ++ marks5).map B8, NP⟩ :: ⟨some g5, 27, imC xi p0, 36⟩ :: RL)) (fun _ ix _ => ns - (intOf ix).toNat)
      case atStart => exact ⟨0, (s ++ marks5), by omega, rfl, Len.of (by rw [List.length_append, hsL.eq]; rfl), hM⟩
      case round =>
        clear hM
        obtain ⟨q1, X1, hq1, rfl, hlX1, hM⟩ := hrel
        by_cases hq1n : q1 < ns
        · --[
          have hq1i : (q1 : Int) < (ns : Int) := by omega
          go_wp2_with (first
            | ((with_reducible refine gL_load (dst := some 146) ?_); refine ⟨_, _, rfl, hM.loads_B8 (.tail _ (.tail _ (.tail _ (.tail _ (.tail _ (.tail _ (.head _))))))) (on_of rfl) (by have := hlX1.eq; omega), ?_⟩)
            | ((with_reducible refine gL_store hM ?_); refine ⟨_, _, _, rfl, rfl, hM.stores_B8 (by first | exact (rfl : B8 _ = B8 _) | exact lit8 _ (by decide)) (.there _ (.there _ (.there _ (.there _ (.there _ (.there _ (.here _ _ _))))))) (on_of rfl) (by have := hlX1.eq; omega), ?_⟩; intro _ hM2; clear hM; have hM := hM2; clear hM2))
          go_roundw
          case rel => exact ⟨q1 + 1, _, by omega, by go_num, hlX1.set _ _, hM⟩
          case measure => simp [intOf]; omega
          --]
        · have hq1e : ns = q1 := by omega
          subst hq1e
          have hq1i : ¬ (ns : Int) < (ns : Int) := by omega
          go_wp2_with fail
          go_loopw [25, 152] (fun _ ix wr => ∃ (q2 : Nat) (X2 : List UInt8), q2 ≤ nb ∧ ix = .int .i64 q2 ∧ Len X2 (nb + 5) ∧ Mem [] w0 wr (⟨some gO, 23, VL, capO * 1⟩ :: ⟨some g15, 39, wrongC ec ek, 2⟩ :: ⟨some g14, 27, imC y (sl obY nY capY), 36⟩ :: ⟨obY, 5, y.pay.map B8, capY⟩ :: ⟨obW, 5, CM.map B8, capW⟩ :: ⟨some g10, 27, imC xi (.slice (some ⟨gP, 0, none⟩) np NP), 36⟩ :: ⟨some gS, 5, X1.map B8, NS⟩ :: ⟨some gI, 5, X2.map B8, NI⟩ :: ⟨some gP, 5, (xi.pay ++ marks5).map B8, NP⟩ :: ⟨some g5, 27, imC xi p0, 36⟩ :: RL)) (fun _ ix _ => nb - (intOf ix).toNat)
          case atStart => exact ⟨0, (B ++ marks5), by omega, rfl, Len.of (by rw [List.length_append, hbL.eq]; rfl), hM⟩
          case round =>
            clear hM
            obtain ⟨q2, X2, hq2, rfl, hlX2, hM⟩ := hrel
            by_cases hq2n : q2 < nb
            · --[
              have hq2i : (q2 : Int) < (nb : Int) := by omega
              go_wp2_with (first
                | ((with_reducible refine gL_load (dst := some 158) ?_); refine ⟨_, _, rfl, hM.loads_B8 (.tail _ (.tail _ (.tail _ (.tail _ (.tail _ (.tail _ (.tail _ (.head _)))))))) (on_of rfl) (by have := hlX2.eq; omega), ?_⟩)
                | ((with_reducible refine gL_store hM ?_); refine ⟨_, _, _, rfl, rfl, hM.stores_B8 (by first | exact (rfl : B8 _ = B8 _) | exact lit8 _ (by decide)) (.there _ (.there _ (.there _ (.there _ (.there _ (.there _ (.there _ (.here _ _ _)))))))) (on_of rfl) (by have := hlX2.eq; omega), ?_⟩; intro _ hM2; clear hM; have hM := hM2; clear hM2))
              go_roundw
              case rel => exact ⟨q2 + 1, _, by omega, by go_num, hlX2.set _ _, hM⟩
              case measure => simp [intOf]; omega
              --]
            · have hq2e : nb = q2 := by omega
              subst hq2e
              have hq2i : ¬ (nb : Int) < (nb : Int) := by omega
              go_wp2_with fail
              go_loopw [26, 164] (fun _ ix wr => ∃ (q3 : Nat) (X3 : List UInt8), q3 ≤ np ∧ ix = .int .i64 q3 ∧ Len X3 (np + 5) ∧ Mem [] w0 wr (⟨some gO, 23, VL, capO * 1⟩ :: ⟨some g15, 39, wrongC ec ek, 2⟩ :: ⟨some g14, 27, imC y (sl obY nY capY), 36⟩ :: ⟨obY, 5, y.pay.map B8, capY⟩ :: ⟨obW, 5, CM.map B8, capW⟩ :: ⟨some g10, 27, imC xi (.slice (some ⟨gP, 0, none⟩) np NP), 36⟩ :: ⟨some gS, 5, X1.map B8, NS⟩ :: ⟨some gI, 5, X2.map B8, NI⟩ :: ⟨some gP, 5, X3.map B8, NP⟩ :: ⟨some g5, 27, imC xi p0, 36⟩ :: RL)) (fun _ ix _ => np - (intOf ix).toNat)
              case atStart => exact ⟨0, (xi.pay ++ marks5), by omega, rfl, Len.of (by rw [List.length_append, hpL.eq]; rfl), hM⟩
              case round =>
                clear hM
                obtain ⟨q3, X3, hq3, rfl, hlX3, hM⟩ := hrel
                by_cases hq3n : q3 < np
                · --[
                  have hq3i : (q3 : Int) < (np : Int) := by omega
                  go_wp2_with (first
                    | ((with_reducible refine gL_load (dst := some 170) ?_); refine ⟨_, _, rfl, hM.loads_B8 (.tail _ (.tail _ (.tail _ (.tail _ (.tail _ (.tail _ (.tail _ (.tail _ (.head _))))))))) (on_of rfl) (by have := hlX3.eq; omega), ?_⟩)
                    | ((with_reducible refine gL_store hM ?_); refine ⟨_, _, _, rfl, rfl, hM.stores_B8 (by first | exact (rfl : B8 _ = B8 _) | exact lit8 _ (by decide)) (.there _ (.there _ (.there _ (.there _ (.there _ (.there _ (.there _ (.there _ (.here _ _ _))))))))) (on_of rfl) (by have := hlX3.eq; omega), ?_⟩; intro _ hM2; clear hM; have hM := hM2; clear hM2))
                  go_roundw
                  case rel => exact ⟨q3 + 1, _, by omega, by go_num, hlX3.set _ _, hM⟩
                  case measure => simp [intOf]; omega
                  --]
                · have hq3e : np = q3 := by omega
                  subst hq3e
                  have hq3i : ¬ (np : Int) < (np : Int) := by omega
                  go_wp2_with fail
                  clear hsL hbL hpL
                  go_loopw [27, 28, 176] (fun _ _ ix wr => ∃ (q : Nat), q ≤ 6 ∧ ix = .int .i64 q ∧ Mem [] w0 wr (⟨some gO, 23, VL, capO * 1⟩ :: ⟨some g15, 39, wrongC ec ek, 2⟩ :: ⟨some g14, 27, imC y (sl obY nY capY), 36⟩ :: ⟨obY, 5, y.pay.map B8, capY⟩ :: ⟨obW, 5, CM.map B8, capW⟩ :: ⟨some g10, 27, imC xi (.slice (some ⟨gP, 0, none⟩) np NP), 36⟩ :: ⟨some gS, 5, X1.map B8, NS⟩ :: ⟨some gI, 5, X2.map B8, NI⟩ :: ⟨some gP, 5, X3.map B8, NP⟩ :: ⟨some g5, 27, imC xi p0, 36⟩ :: RL)) (fun _ _ ix _ => 6 - (intOf ix).toNat)
                  case atStart => exact ⟨0, by omega, rfl, hM⟩
                  case round =>
                    clear hM
                    obtain ⟨q, hq, rfl, hM⟩ := hrel
                    by_cases hq6 : q < 6
                    · --[
                      have hqi : (q : Int) < (6 : Int) := by omega
                      obtain ⟨r, hr⟩ : ∃ r, rs[q]? = some r := ⟨_, List.getElem?_eq_getElem (by rw [(HRS ()).eq]; exact hq6)⟩
                      have hVq : VL[q]? = some r.v := by rw [HVL ()]; simp [hr]
                      have hRq : r.b ∈ RL := by rw [HRL ()]; exact List.mem_map.2 ⟨r, List.mem_of_getElem? hr, rfl⟩
                      have hread := (HGR () q r hr).2
                      have hBWx : Bytes wr vW CM := HVW () ▸ hM.whole (.tail _ (.tail _ (.tail _ (.tail _ (.head _))))) hW1 (by simpa [maxLen] using hW2)
                      have hBYx : Bytes wr (sl obY nY capY) y.pay := hM.whole (.tail _ (.tail _ (.tail _ (.head _)))) hY1 (by simpa [maxLen] using hY2)
                      obtain ⟨u, hu, hu3, hat⟩ : ∃ u : Nat, (q : Int).tmod 3 = (u : Int) ∧ u < 3 ∧ ∀ (w' : World) (g : Nat) (v3 : Value), Adds wr w' → Bytes w' v3 BB → (Blk.mk (some g) 23 [vW, sl obY nY capY, v3] 3).holds w' → ∃ x, Loads Tryd.prog w' 23 ⟨g, 0 + u * 1, none⟩ x ∧ Bytes w' x (outs CM y.pay BB q) := by
                        refine ⟨q % 3, by rw [Int.tmod_eq_emod_of_nonneg (by omega)]; omega, by omega, fun w' g v3 hw h3 hh => ?_⟩
                        obtain ⟨J, hJ, -⟩ := hh
                        have hcell : ∀ k x, [vW, sl obY nY capY, v3][k]? = some x → Loads Tryd.prog w' 23 ⟨g, 0 + k * 1, none⟩ x := fun k x hx => by
                          refine loads_cell ?_ (on_of rfl)
                          rw [Nat.zero_add, Nat.mul_one, Row.cell? (L := [vW, sl obY nY capY, v3] ++ J) hJ, List.getElem?_append_left (List.getElem?_eq_some_iff.1 hx).1]
                          exact hx
                        unfold outs
                        have h3q : q % 3 = 0 ∨ q % 3 = 1 ∨ q % 3 = 2 := by omega
                        rcases h3q with h | h | h
                        · rw [h, if_pos rfl]
                          exact ⟨_, hcell 0 _ rfl, hBWx.adds hw⟩
                        · rw [h, if_neg (by decide), if_pos rfl]
                          exact ⟨_, hcell 1 _ rfl, hBYx.adds hw⟩
                        · rw [h, if_neg (by decide), if_neg (by decide)]
                          exact ⟨_, hcell 2 _ rfl, h3⟩
                      obtain ⟨D, hD⟩ : ∃ D, outs CM y.pay BB q = D := ⟨_, rfl⟩
                      rw [hD] at hat hread
                      clear hD hBWx hBYx
                      have hvWc : vW.cells = #[vW] := by rw [← HVW ()]; rfl
                      go_wp2_with fail
                      try simp only [Act.put, List.setIfInBounds_toArray, List.set_cons_succ, List.set_cons_zero]
                      refine wp_region_tail 11 (by decide) (fun c vals => ⟨#[c 0, (vb : Value), c 2, c 3, c 4, c 5, c 6, c 7, c 8, c 9, c 10, c 11, (vW : Value), c 13, (Value.pointer (some ⟨g14, 0, none⟩) : Value), c 15, c 16, c 17, c 18, c 19, c 20, c 21, c 22, c 23, c 24, c 25, c 26, (Value.int .i64 (q : Int) : Value), vals 10, c 29, c 30, c 31, c 32, c 33, c 34, c 35, c 36, c 37, c 38, c 39, c 40, c 41, c 42, c 43, c 44, c 45, c 46, c 47, c 48, c 49, c 50, c 51, c 52, c 53, c 54, c 55, c 56, c 57, c 58, c 59, c 60, c 61, c 62, c 63, c 64, c 65, c 66, c 67, c 68, c 69, c 70, c 71, c 72, c 73, c 74, c 75, c 76, c 77, c 78, c 79, c 80, c 81, c 82, c 83, c 84, c 85, c 86, c 87, c 88, c 89, c 90, c 91, c 92, c 93, c 94, c 95, c 96, c 97, c 98, c 99, c 100, c 101, c 102, c 103, c 104, c 105, c 106, c 107, c 108, c 109, c 110, c 111, c 112, c 113, c 114, c 115, c 116, c 117, c 118, c 119, c 120, c 121, c 122, c 123, c 124, c 125, c 126, c 127, c 128, c 129, c 130, c 131, c 132, c 133, c 134, c 135, c 136, c 137, c 138, c 139, c 140, c 141, c 142, c 143, c 144, c 145, c 146, c 147, c 148, c 149, c 150, c 151, c 152, c 153, c 154, c 155, c 156, c 157, c 158, c 159, c 160, c 161, c 162, c 163, c 164, c 165, c 166, c 167, c 168, c 169, c 170, c 171, c 172, c 173, c 174, c 175, c 176, c 177, c 178, vals 0, vals 1, vals 2, vals 3, vals 4, vals 5, vals 6, vals 7, vals 8, vals 9, c 189, c 190, c 191, c 192, c 193, c 194, c 195, c 196, c 197, c 198, c 199, c 200, c 201, c 202, c 203, c 204, c 205, c 206, c 207, c 208, c 209, c 210, c 211, c 212, c 213, c 214, c 215, c 216, c 217, c 218, c 219, c 220, c 221], []⟩) (fun t => [_, undef, _, _, _, _, _, _, _, _, _, _, undef, _, undef, _, _, _, _, _, _, _, _, _, _, _, _, undef, undef, _, _, _, _, _, _, _, _, _, _, _, _, _, _, _, _, _, _, _, _, _, _, _, _, _, _, _, _, _, _, _, _, _, _, _, _, _, _, _, _, _, _, _, _, _, _, _, _, _, _, _, _, _, _, _, _, _, _, _, _, _, _, _, _, _, _, _, _, _, _, _, _, _, _, _, _, _, _, _, _, _, _, _, _, _, _, _, _, _, _, _, _, _, _, _, _, _, _, _, _, _, _, _, _, _, _, _, _, _, _, _, _, _, _, _, _, _, _, _, _, _, _, _, _, _, _, _, _, _, _, _, _, _, _, _, _, _, _, _, _, _, _, _, _, _, _, _, _, _, _, undef, undef, undef, undef, undef, undef, undef, undef, undef, undef, _, _, _, _, _, _, _, _, _, _, _, _, _, _, _, _, _, _, _, _, _, _, _, _, _, _, _, _, _, _, _, _, _].getD t undef) (fun i => [_, _, _, _, _, _, _, _, _, _, _].getD i undef) (by kernel_rfl)
                        [[], [], [1], [], [3], [0, 1, 2, 3, 4], [], [6], [0, 1, 2, 3, 4, 5, 6, 7], [0, 1, 2, 3, 4, 5, 6, 7, 8], [0, 1, 2, 3, 4, 5, 6, 7, 8, 9]] (by kernel_rfl) (by kernel_rfl) (fun _ => True) trivial
                        [fun x _ => x = (vW : Value),
                         fun x _ => x = (Value.pointer (some ⟨g14, 3, none⟩) : Value),
                         fun x _ => x = (sl obY nY capY : Value),
                         fun x _ => x = (vb : Value),
                         fun x w => Bytes w x (BB),
                         fun (xx : Value) (ww : World) => ∃ g v3, xx = .slice (some ⟨g, 0, none⟩) 3 3 ∧ Bytes ww v3 BB ∧ (Blk.mk (some g) 23 [vW, sl obY nY capY, v3] 3).holds ww,
                         fun x _ => x = (Value.int .i64 (q : Int) : Value),
                         fun x _ => x = (Value.int .i64 (u : Int) : Value),
                         fun (xx : Value) (ww : World) => ∃ g v3, xx = .pointer (some ⟨g, 0 + u * 1, none⟩) ∧ Bytes ww v3 BB ∧ (Blk.mk (some g) 23 [vW, sl obY nY capY, v3] 3).holds ww,
                         fun (xx : Value) (ww : World) => Bytes ww xx D,
                         fun (xx : Value) (ww : World) => Bytes ww xx D]
                        ⟨fun _ _ _ h _ => h, fun _ _ _ h _ => h, fun _ _ _ h _ => h, fun _ _ _ h _ => h, fun _ _ _ h hb => h.adds hb, fun _ _ _ h hb => (let ⟨g, v3, h1, h2, h3⟩ := h; ⟨g, v3, h1, h2.adds hb, h3.adds hb⟩), fun _ _ _ h _ => h, fun _ _ _ h _ => h, fun _ _ _ h hb => (let ⟨g, v3, h1, h2, h3⟩ := h; ⟨g, v3, h1, h2.adds hb, h3.adds hb⟩), fun _ _ _ h hb => h.adds hb, fun _ _ _ h hb => h.adds hb, trivial⟩ []
                        ⟨?_, ?_, ?_, ?_, ?_, ?_, ?_, ?_, ?_, ?_, ?_, trivial⟩ ?_
                      · refine showA_op 0 (by intro _ _ _; kernel_rfl) rfl rfl (fun c vals w hC hD => ?_)
                        clear hD
                        refine makes1 (x := .tmp 12) (X := vW) (by kernel_rfl : _ = (vW : Value)) (fun ρ rc rf q12 => ?_)
                        exact makes_move (.inl rfl) q12 ⟨Adds.refl _, rfl⟩
                      · refine showA_op 1 (by intro _ _ _; kernel_rfl) rfl rfl (fun c vals w hC hD => ?_)
                        clear hD
                        refine makes1 (x := .tmp 14) (X := Value.pointer (some ⟨g14, 0, none⟩)) (by kernel_rfl : _ = (Value.pointer (some ⟨g14, 0, none⟩) : Value)) (fun ρ rc rf q14 => ?_)
                        refine makes_value (v := Value.pointer (some ⟨g14, 3, none⟩)) ?_ ⟨Adds.refl _, rfl⟩
                        go_simp
                        all_goals first | done | rfl | (rw [if_pos (by omega)]; refine congrArg (fun x => Result.ok (Next.value (Value.pointer (some ⟨_, x, none⟩))) _) ?_; omega) | (rw [wrapP_i64]; omega) | go_num | (simp; done) | (simp; omega) | (congr 1; first | rfl | (rw [wrapP_i64]; omega) | (congr 1; first | rfl | (simp; done) | (simp; omega) | (congr 2; omega) | go_num))
                      · refine showA_op 2 (by intro _ _ _; kernel_rfl) rfl rfl (fun c vals w hC hD => ?_)
                        have h1 : vals 1 = .pointer (some ⟨g14, 3, none⟩) := hD 1 rfl
                        clear hD
                        refine makes1 (x := .tmp 180) (X := Value.pointer (some ⟨g14, 3, none⟩)) ((by kernel_rfl : _ = vals 1).trans h1) (fun ρ rc rf q180 => ?_)
                        clear h1
                        exact makes_load ((hM.adds hC).loads_one (.tail _ (.tail _ (.head _))) (on_of rfl) rfl) rfl q180 ⟨Adds.refl _, rfl⟩
                      · refine showA_op 3 (by intro _ _ _; kernel_rfl) rfl rfl (fun c vals w hC hD => ?_)
                        clear hD
                        refine makes1 (x := .tmp 1) (X := vb) (by kernel_rfl : _ = (vb : Value)) (fun ρ rc rf q1 => ?_)
                        exact makes_move (.inl rfl) q1 ⟨Adds.refl _, rfl⟩
                      · refine showA_op 4 (by intro _ _ _; kernel_rfl) rfl rfl (fun c vals w hC hD => ?_)
                        have h3 : vals 3 = vb := hD 3 rfl
                        clear hD
                        refine makes1 (x := .tmp 182) (X := vb) ((by kernel_rfl : _ = vals 3).trans h3) (fun ρ rc rf q182 => ?_)
                        clear h3
                        refine makes_call (hrbody _ (hM.adds hC).done) ?_ (by rintro e w' ⟨v', rfl, hb1, hb2⟩; exact ⟨_, rfl, hb2, hb1⟩)
                        go_simp
                      · refine showA_op 5 (by intro _ _ _; kernel_rfl) rfl rfl (fun c vals w hC hD => ?_)
                        have h0 : vals 0 = vW := hD 0 rfl
                        have h2 : vals 2 = sl obY nY capY := hD 2 rfl
                        have h4 : Bytes w (vals 4) (BB) := hD 4 rfl
                        clear hD
                        refine makes3 (x := .tmp 179) (X := vW) (y := .tmp 181) (Y := sl obY nY capY) (z := .tmp 183) (Z := vals 4) ((by kernel_rfl : _ = vals 0).trans h0) ((by kernel_rfl : _ = vals 2).trans h2) (by kernel_rfl : _ = vals 4) (fun ρ rc rf q179 q181 q183 => ?_)
                        clear h0 h2
                        (obtain ⟨ao3, c3, e3, -⟩ := id h4; exact makes_bs3 (us_of rfl) (el_of rfl) rfl q179 q181 q183 hvWc rfl (by rw [e3]; rfl) ⟨(Below.refl _ _).alloc (Nat.le_refl _) _, _, vals 4, rfl, h4.adds ((Below.refl _ _).alloc (Nat.le_refl _) _), [], by rw [List.append_nil]; exact Row.new _ _ _, rfl⟩)
                      · refine showA_op 6 (by intro _ _ _; kernel_rfl) rfl rfl (fun c vals w hC hD => ?_)
                        clear hD
                        refine makes1 (x := .tmp 27) (X := Value.int .i64 (q : Int)) (by kernel_rfl : _ = (Value.int .i64 (q : Int) : Value)) (fun ρ rc rf q27 => ?_)
                        exact makes_move (.inl rfl) q27 ⟨Adds.refl _, rfl⟩
                      · refine showA_op 7 (by intro _ _ _; kernel_rfl) rfl rfl (fun c vals w hC hD => ?_)
                        have h6 : vals 6 = .int .i64 (q : Int) := hD 6 rfl
                        clear hD
                        refine makes1 (x := .tmp 185) (X := Value.int .i64 (q : Int)) ((by kernel_rfl : _ = vals 6).trans h6) (fun ρ rc rf q185 => ?_)
                        clear h6
                        (refine makes_value (v := .int .i64 (u : Int)) ?_ ⟨Adds.refl _, rfl⟩; go_simp)
                      · refine showA_op 8 (by intro _ _ _; kernel_rfl) rfl rfl (fun c vals w hC hD => ?_)
                        have h5 : (fun (xx : Value) (ww : World) => ∃ g v3, xx = .slice (some ⟨g, 0, none⟩) 3 3 ∧ Bytes ww v3 BB ∧ (Blk.mk (some g) 23 [vW, sl obY nY capY, v3] 3).holds ww) (vals 5) w := hD 5 rfl
                        have h7 : vals 7 = .int .i64 (u : Int) := hD 7 rfl
                        clear hD
                        refine makes2 (x := .tmp 184) (X := vals 5) (y := .tmp 186) (Y := Value.int .i64 (u : Int)) (by kernel_rfl : _ = vals 5) ((by kernel_rfl : _ = vals 7).trans h7) (fun ρ rc rf q184 q186 => ?_)
                        clear h7
                        (obtain ⟨g, v3, e5, hb3, hh⟩ := h5; exact makes_index (us_of rfl) (el_of rfl) hu3 rfl (q184.trans e5) q186 ⟨Adds.refl _, g, v3, rfl, hb3, hh⟩)
                      · refine showA_op 9 (by intro _ _ _; kernel_rfl) rfl rfl (fun c vals w hC hD => ?_)
                        have h8 : (fun (xx : Value) (ww : World) => ∃ g v3, xx = .pointer (some ⟨g, 0 + u * 1, none⟩) ∧ Bytes ww v3 BB ∧ (Blk.mk (some g) 23 [vW, sl obY nY capY, v3] 3).holds ww) (vals 8) w := hD 8 rfl
                        clear hD
                        refine makes1 (x := .tmp 187) (X := vals 8) (by kernel_rfl : _ = vals 8) (fun ρ rc rf q187 => ?_)
                        (obtain ⟨g, v3, e8, hb3, hh⟩ := h8; obtain ⟨x3, hx1, hx2⟩ := hat _ g v3 hC hb3 hh; exact makes_load hx1 rfl (q187.trans e8) ⟨Adds.refl _, hx2⟩)
                      · refine showA_op 10 (by intro _ _ _; kernel_rfl) rfl rfl (fun c vals w hC hD => ?_)
                        have h9 : (fun (xx : Value) (ww : World) => Bytes ww xx D) (vals 9) w := hD 9 rfl
                        clear hD
                        refine makes1 (x := .tmp 188) (X := vals 9) (by kernel_rfl : _ = vals 9) (fun ρ rc rf q188 => ?_)
                        exact makes_move (.inr rfl) q188 ⟨Adds.refl _, h9⟩
                      intro vals w' hC hΦ hne
                      have h10 : (fun (xx : Value) (ww : World) => Bytes ww xx D) (vals 10) w' := hΦ 10 (by decide)
                      clear hΦ hne
                      simp only [List.getD_eq_getElem?_getD, List.getElem?_cons_zero, List.getElem?_cons_succ, Option.getD_some, List.drop_succ_cons, List.drop_zero]
                      try simp only [tuple_undef]
                      replace hM := hM.adds hC
                      clear hC hat
                      rename World => w9
                      have hB28 : Bytes w9 (vals 10) D := h10
                      clear h10
                      generalize vals 10 = v28 at *
                      go_wp2_with fail
                      try simp only [Act.put, List.setIfInBounds_toArray, List.set_cons_succ, List.set_cons_zero]
                      refine wp_region_tail 8 (by decide) (fun c vals => ⟨#[c 0, c 1, c 2, c 3, c 4, c 5, c 6, c 7, c 8, c 9, c 10, (Value.slice (some ⟨gO, 0, none⟩) 6 capO : Value), c 12, c 13, c 14, c 15, c 16, c 17, c 18, c 19, c 20, c 21, c 22, c 23, c 24, c 25, c 26, (Value.int .i64 (q : Int) : Value), (v28 : Value), c 29, c 30, c 31, c 32, c 33, c 34, c 35, c 36, c 37, c 38, c 39, c 40, c 41, c 42, c 43, c 44, c 45, c 46, c 47, c 48, c 49, c 50, c 51, c 52, c 53, c 54, c 55, c 56, c 57, c 58, c 59, c 60, c 61, c 62, c 63, c 64, c 65, c 66, c 67, c 68, c 69, c 70, c 71, c 72, c 73, c 74, c 75, c 76, c 77, c 78, c 79, c 80, c 81, c 82, c 83, c 84, c 85, c 86, c 87, c 88, c 89, c 90, c 91, c 92, c 93, c 94, c 95, c 96, c 97, c 98, c 99, c 100, c 101, c 102, c 103, c 104, c 105, c 106, c 107, c 108, c 109, c 110, c 111, c 112, c 113, c 114, c 115, c 116, c 117, c 118, c 119, c 120, c 121, c 122, c 123, c 124, c 125, c 126, c 127, c 128, c 129, c 130, c 131, c 132, c 133, c 134, c 135, c 136, c 137, c 138, c 139, c 140, c 141, c 142, c 143, c 144, c 145, c 146, c 147, c 148, c 149, c 150, c 151, c 152, c 153, c 154, c 155, c 156, c 157, c 158, c 159, c 160, c 161, c 162, c 163, c 164, c 165, c 166, c 167, c 168, c 169, c 170, c 171, c 172, c 173, c 174, c 175, c 176, c 177, c 178, c 179, c 180, c 181, c 182, c 183, c 184, c 185, c 186, c 187, c 188, vals 0, vals 1, vals 2, vals 3, vals 4, vals 5, vals 6, vals 7, c 197, c 198, c 199, c 200, c 201, c 202, c 203, c 204, c 205, c 206, c 207, c 208, c 209, c 210, c 211, c 212, c 213, c 214, c 215, c 216, c 217, c 218, c 219, c 220, c 221], []⟩) (fun t => [_, _, _, _, _, _, _, _, _, _, _, undef, _, _, _, _, _, _, _, _, _, _, _, _, _, _, _, undef, undef, _, _, _, _, _, _, _, _, _, _, _, _, _, _, _, _, _, _, _, _, _, _, _, _, _, _, _, _, _, _, _, _, _, _, _, _, _, _, _, _, _, _, _, _, _, _, _, _, _, _, _, _, _, _, _, _, _, _, _, _, _, _, _, _, _, _, _, _, _, _, _, _, _, _, _, _, _, _, _, _, _, _, _, _, _, _, _, _, _, _, _, _, _, _, _, _, _, _, _, _, _, _, _, _, _, _, _, _, _, _, _, _, _, _, _, _, _, _, _, _, _, _, _, _, _, _, _, _, _, _, _, _, _, _, _, _, _, _, _, _, _, _, _, _, _, _, _, _, _, _, _, _, _, _, _, _, _, _, _, _, undef, undef, undef, undef, undef, undef, undef, undef, _, _, _, _, _, _, _, _, _, _, _, _, _, _, _, _, _, _, _, _, _, _, _, _, _].getD t undef) (fun i => [_, _, _, _, _, _, _, _].getD i undef) (by kernel_rfl)
                        [[], [], [0, 1], [0, 1, 2], [0, 1, 2, 3], [], [5], [0, 1, 2, 3, 4, 5, 6]] (by kernel_rfl) (by kernel_rfl) (fun _ => True) trivial
                        [fun x _ => x = (Value.slice (some ⟨gO, 0, none⟩) 6 capO : Value),
                         fun x _ => x = (Value.int .i64 (q : Int) : Value),
                         fun x _ => x = (Value.pointer (some ⟨gO, 0 + q * 1, none⟩) : Value),
                         fun x _ => x = (r.v : Value),
                         fun x _ => x = (Value.string ⟨(D).toArray⟩ : Value),
                         fun x _ => x = (v28 : Value),
                         fun x _ => x = (Value.string ⟨(D).toArray⟩ : Value),
                         fun x _ => x = (Value.bool false : Value)]
                        ⟨fun _ _ _ h _ => h, fun _ _ _ h _ => h, fun _ _ _ h _ => h, fun _ _ _ h _ => h, fun _ _ _ h _ => h, fun _ _ _ h _ => h, fun _ _ _ h _ => h, fun _ _ _ h _ => h, trivial⟩ []
                        ⟨?_, ?_, ?_, ?_, ?_, ?_, ?_, ?_, trivial⟩ ?_
                      · refine showA_op 0 (by intro _ _ _; kernel_rfl) rfl rfl (fun c vals w hC hD => ?_)
                        clear hD
                        refine makes1 (x := .tmp 11) (X := Value.slice (some ⟨gO, 0, none⟩) 6 capO) (by kernel_rfl : _ = (Value.slice (some ⟨gO, 0, none⟩) 6 capO : Value)) (fun ρ rc rf q11 => ?_)
                        exact makes_move (.inl rfl) q11 ⟨Adds.refl _, rfl⟩
                      · refine showA_op 1 (by intro _ _ _; kernel_rfl) rfl rfl (fun c vals w hC hD => ?_)
                        clear hD
                        refine makes1 (x := .tmp 27) (X := Value.int .i64 (q : Int)) (by kernel_rfl : _ = (Value.int .i64 (q : Int) : Value)) (fun ρ rc rf q27 => ?_)
                        exact makes_move (.inl rfl) q27 ⟨Adds.refl _, rfl⟩
                      · refine showA_op 2 (by intro _ _ _; kernel_rfl) rfl rfl (fun c vals w hC hD => ?_)
                        have h0 : vals 0 = .slice (some ⟨gO, 0, none⟩) 6 capO := hD 0 rfl
                        have h1 : vals 1 = .int .i64 (q : Int) := hD 1 rfl
                        clear hD
                        refine makes2 (x := .tmp 189) (X := Value.slice (some ⟨gO, 0, none⟩) 6 capO) (y := .tmp 190) (Y := Value.int .i64 (q : Int)) ((by kernel_rfl : _ = vals 0).trans h0) ((by kernel_rfl : _ = vals 1).trans h1) (fun ρ rc rf q189 q190 => ?_)
                        clear h0 h1
                        exact makes_index (us_of rfl) (el_of rfl) hq6 rfl q189 q190 ⟨Adds.refl _, rfl⟩
                      · refine showA_op 3 (by intro _ _ _; kernel_rfl) rfl rfl (fun c vals w hC hD => ?_)
                        have h2 : vals 2 = .pointer (some ⟨gO, 0 + q * 1, none⟩) := hD 2 rfl
                        clear hD
                        refine makes1 (x := .tmp 191) (X := Value.pointer (some ⟨gO, 0 + q * 1, none⟩)) ((by kernel_rfl : _ = vals 2).trans h2) (fun ρ rc rf q191 => ?_)
                        clear h2
                        exact makes_load ((hM.adds hC).loads_one (.head _) (on_of rfl) (by rw [Nat.zero_add, Nat.mul_one]; exact hVq)) rfl q191 ⟨Adds.refl _, rfl⟩
                      · refine showA_op 4 (by intro _ _ _; kernel_rfl) rfl rfl (fun c vals w hC hD => ?_)
                        have h3 : vals 3 = r.v := hD 3 rfl
                        clear hD
                        refine makes1 (x := .tmp 192) (X := r.v) ((by kernel_rfl : _ = vals 3).trans h3) (fun ρ rc rf q192 => ?_)
                        clear h3
                        (have hs' := str_of (hread _ ((hM.adds hC).holds _ (.tail _ (.tail _ (.tail _ (.tail _ (.tail _ (.tail _ (.tail _ (.tail _ (.tail _ (.tail _ hRq)))))))))))); refine makes_value (v := .string ⟨(D).toArray⟩) ?_ ⟨Adds.refl _, rfl⟩; go_simp)
                      · refine showA_op 5 (by intro _ _ _; kernel_rfl) rfl rfl (fun c vals w hC hD => ?_)
                        clear hD
                        refine makes1 (x := .tmp 28) (X := v28) (by kernel_rfl : _ = (v28 : Value)) (fun ρ rc rf q28 => ?_)
                        exact makes_move (.inl rfl) q28 ⟨Adds.refl _, rfl⟩
                      · refine showA_op 6 (by intro _ _ _; kernel_rfl) rfl rfl (fun c vals w hC hD => ?_)
                        have h5 : vals 5 = v28 := hD 5 rfl
                        clear hD
                        refine makes1 (x := .tmp 194) (X := v28) ((by kernel_rfl : _ = vals 5).trans h5) (fun ρ rc rf q194 => ?_)
                        clear h5
                        have hs := str_of (hB28.adds hC)
                        refine makes_value (v := Value.string ⟨(D).toArray⟩) ?_ ⟨Adds.refl _, rfl⟩
                        go_simp
                      · refine showA_op 7 (by intro _ _ _; kernel_rfl) rfl rfl (fun c vals w hC hD => ?_)
                        have h4 : vals 4 = .string ⟨(D).toArray⟩ := hD 4 rfl
                        have h6 : vals 6 = .string ⟨(D).toArray⟩ := hD 6 rfl
                        clear hD
                        refine makes2 (x := .tmp 193) (X := Value.string ⟨(D).toArray⟩) (y := .tmp 195) (Y := Value.string ⟨(D).toArray⟩) ((by kernel_rfl : _ = vals 4).trans h4) ((by kernel_rfl : _ = vals 6).trans h6) (fun ρ rc rf q193 q195 => ?_)
                        clear h4 h6
                        refine makes_value (v := Value.bool false) ?_ ⟨Adds.refl _, rfl⟩
                        go_simp
                        all_goals first | done | rfl | (rw [if_pos (by omega)]; refine congrArg (fun x => Result.ok (Next.value (Value.pointer (some ⟨_, x, none⟩))) _) ?_; omega) | (rw [wrapP_i64]; omega) | go_num | (simp; done) | (simp; omega) | (congr 1; first | rfl | (rw [wrapP_i64]; omega) | (congr 1; first | rfl | (simp; done) | (simp; omega) | (congr 2; omega) | go_num))
                      intro vals w' hC hΦ hne
                      have h7 : vals 7 = .bool false := hΦ 7 (by decide)
                      clear hΦ hne
                      simp only [List.getD_eq_getElem?_getD, List.getElem?_cons_zero, List.getElem?_cons_succ, Option.getD_some, List.drop_succ_cons, List.drop_zero]
                      simp only [h7]
                      clear h7
                      try simp only [tuple_undef]
                      replace hM := hM.adds hC
                      clear hC hB28
                      go_wp2_with fail
                      go_roundw
                      case rel => exact ⟨q + 1, by omega, by go_num, hM⟩
                      case measure => simp [intOf]; omega
                      --]
                    · have hYL := hY1
                      obtain rfl : q = 6 := by omega
                      have hqi : ¬ ((6 : Nat) : Int) < (6 : Int) := by omega
                      clear hrbody HVW hW1 hY1
                      rw [HVL (), HRL ()] at hM
                      have hM2 := hM.perm (.cons _ (List.perm_append_comm (l₁ := [_, _, _, _, _, _, _, _, _]) (l₂ := rs.map OR.b)))
                      have hgr := law11_grown rs (fun r hr => by
                        obtain ⟨k, hk⟩ := List.mem_iff_getElem?.1 hr
                        exact (HGR () k r hk).1) 6 (HRS ()) (by decide) gO _ capO hM2
                      clear hM2 hM
                      go_wp2_with fail
                      refine hgr.mono ?_
                      clear hgr
                      rintro _ wG ⟨rfl, hM⟩
                      go_wp2_with fail
                      refine (hparse _ vb (hM.bytes0 hb)).mono ?_
                      rintro _ wH ⟨r4, E4, ev4, rfl, -, -, hr4, htold, hM3⟩
                      replace hM := hM.addMem hM3
                      clear hM3
                      simp only [List.cons_append, List.nil_append] at hM
                      have hC29 := imC_len hTy r4.v
                      have hC29o := im_one y r4.v rfl
                      go_wp2_with (first
                        | ((with_reducible refine gL_alloc (dst := some 29) hM ?_); refine ⟨_, _, hz, ?_⟩; intro g29 _ hM2; clear hM; have hM := hM2; clear hM2)
                        | ((with_reducible refine gL_store (x := .tmp 29) hM ?_); refine ⟨_, _, _, rfl, rfl, hM.stores_all (.here _ _ _) (ag_of rfl) hC29 hzC hC29o, ?_⟩; intro _ hM2; clear hM; have hM := hM2; clear hM2))
                      refine (htold _ (hM.holds _ (.tail _ (.tail _ (.head _)))) (hg.mem hM)).mono ?_
                      rintro _ wJ ⟨rfl, B1⟩
                      replace hM := hM.adds B1
                      clear B1 htold
                      go_wp2_with (first
                        | ((with_reducible refine gL_alloc (dst := some 31) hM ?_); refine ⟨wrongC 0 0, _, (zr_of rfl), ?_⟩; intro g31 _ hM2; clear hM; have hM := hM2; clear hM2)
                        | ((with_reducible refine gL_store (x := .tmp 31) hM ?_); refine ⟨_, _, _, rfl, rfl, hM.stores_all (C1 := wrongC ec ek) (.here _ _ _) (ag_of rfl) rfl rfl (one_of_all rfl), ?_⟩; intro wK hM2; clear hM; have hM := hM2; clear hM2)
                        | ((with_reducible refine gG_load (dst := some 213) ?_ ?_); (exact wanted_of rfl rfl rfl rfl rfl); refine ⟨_, _, rfl, hM.loads_all (.head _) (ag_of rfl) rfl, ?_⟩)
                        | ((with_reducible refine gG_load (dst := some 214) ?_ ?_); (exact wanted_of rfl rfl rfl rfl rfl); refine ⟨_, _, rfl, hM.loads_all (.tail _ (.tail _ (.tail _ (.tail _ (.head _))))) (ag_of rfl) rfl, ?_⟩)
                        | ((with_reducible refine gG_eql (dst := some 215) ?_ ?_); (exact wanted_of rfl rfl rfl rfl rfl); refine ⟨_, _, _, rfl, rfl, wrong_self _ _, ?_⟩)
                        | ((with_reducible refine gG_load (dst := some 218) ?_ ?_); (exact wanted_of rfl rfl rfl rfl rfl); refine ⟨_, _, rfl, hM.loads_all (.tail _ (.head _)) (ag_of rfl) hC29, ?_⟩)
                        | ((with_reducible refine gG_load (dst := some 219) ?_ ?_); (exact wanted_of rfl rfl rfl rfl rfl); refine ⟨_, _, rfl, hM.loads_all (.tail _ (.tail _ (.tail _ (.tail _ (.tail _ (.head _)))))) (ag_of rfl) hC14, ?_⟩))
                      refine (ref11_Same _ y r4.v (sl obY nY capY) (hr4 _ (hM.holds _ (.tail _ (.tail _ (.head _))))) (hM.whole (.tail _ (.tail _ (.tail _ (.tail _ (.tail _ (.tail _ (.head _))))))) hYL (by simpa [maxLen] using hY2)) hTy).mono ?_
                      rintro _ wN ⟨rfl, B1⟩
                      replace hM := hM.adds B1
                      go_wp2_with fail
                      go_ret
                      exact ⟨rfl, hM.done⟩
end Go.Proofs.YtejmbkljnhnklaaDoor
