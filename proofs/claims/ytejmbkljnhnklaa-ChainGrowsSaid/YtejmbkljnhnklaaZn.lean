/-
  A region that draws its order, in two halves: operations that only add memory, then one that writes, which follows them all, and then operations that each follow it and only add memory.
  The walk of ChainGrows.
-/
import Derived.Test.YtejmbkljnhnklaaPi
import Derived.Test.YtejmbkljnhnklaaZo
namespace Go.PK
open Go.RowKit
section
variable {P : Program} {Q : Exit → Act → World → Prop}
def midOk (m : Nat) (ops : List Oper) (D : List (List Nat)) : Bool := ((List.range m).all fun j => (D.getD m []).contains j) && (List.range ops.length).all fun i => i ≤ m || (D.getD i []).contains m
def TwInv (l : List Oper) (m : Nat) (fr : (Nat → Value) → (Nat → Value) → Act) (c : Nat → Value) (C S : World → Prop) (Φs : List (Value → World → Prop)) (D : List (List Nat)) (listed : Array Bool) (a : Act) (w' : World) : Prop :=
  listed.size = l.length ∧ (∀ i o, listed[i]? = some true → l[i]? = some o → (∀ k ∈ bound o, listed[k]? = some true) ∧ ∀ j, (D.getD i []).contains j = true → listed[j]? = some true) ∧
  ∃ vals, a = fr c vals ∧ (∀ i, listed[i]? = some true → Φs.getD i (fun _ _ => True) (vals i) w') ∧
  ((C w' ∧ ∀ i, m ≤ i → listed[i]? ≠ some true) ∨ (S w' ∧ ∀ i, i ≤ m → listed[i]? = some true))
theorem wp_region_two {id : Nat} {l : List Oper} (m : Nat) (hml : m < l.length) (fr : (Nat → Value) → (Nat → Value) → Act) (c vals0 : Nat → Value) {w : World} (hm : P.follows .mixedOrders = true)
    (D : List (List Nat)) (hD : aheadOk l D = true) (hT : midOk m l D = true) (X : (Nat → Value) → Prop) (hX : X c)
    (Φs : List (Value → World → Prop)) (hΦ : StableAll Φs) (hind : ∀ i x w1 w2, i < m → Φs.getD i (fun _ _ => True) x w1 → Φs.getD i (fun _ _ => True) x w2) (S : World → Prop) (hS : ∀ w1 w2, S w1 → Adds w1 w2 → S w2)
    (hshow : ShowsA P l.toArray Q fr X (Adds w) Φs D [] 0 (l.take m))
    (hwr : ∀ o, l[m]? = some o → ∀ vals w', Adds w w' → (∀ j, j < m → Φs.getD j (fun _ _ => True) (vals j) w') → ∀ K : Act → World → Prop, (∀ v w'', Φs.getD m (fun _ _ => True) v w'' ∧ S w'' → K (fr c (upd vals m v)) w'') → Region.wanted o (yielded l.toArray (fr c vals).tmps) = true ∧ o.wp P (fr c vals) w' K Q)
    (hshow2 : ShowsA P l.toArray Q fr X S Φs D [] (m + 1) (l.drop (m + 1)))
    (hfin : ∀ vals w', S w' → (∀ i, i < l.length → Φs.getD i (fun _ _ => True) (vals i) w') → Q .normal (fr c vals) w') :
    (Code.region id l.toArray true).wp P Q (fr c vals0) w := by
  refine wp_region_any hm ?_
  have hdrew : ({ w with drawn := w.drawn + 1 } : World) = w.drew := rfl
  rw [hdrew]
  have hacyc : ∀ i o, l[i]? = some o → (∀ k ∈ bound o, k < i) ∧ ∀ j, (D.getD i []).contains j = true → j ∈ bound o ∨ ∃ k ∈ bound o, (D.getD k []).contains j = true := by
    intro i o ho
    unfold aheadOk at hD
    rw [List.all_eq_true] at hD
    have := hD (o, i) (by rw [List.mem_iff_getElem?]; exact ⟨i, by simp [ho]⟩)
    simp only [Bool.and_eq_true, List.all_eq_true] at this
    obtain ⟨h1, h2⟩ := this
    refine ⟨fun k hk => by simpa using h1 k hk, fun j hj => ?_⟩
    have := h2 j (by simpa using hj)
    rw [Bool.or_eq_true] at this
    rcases this with h | h
    · exact .inl (by simpa using h)
    · rw [List.any_eq_true] at h
      obtain ⟨k, hk, hj'⟩ := h
      exact .inr ⟨k, hk, hj'⟩
  have hmid1 : ∀ j, j < m → (D.getD m []).contains j = true := by
    unfold midOk at hT
    rw [Bool.and_eq_true, List.all_eq_true] at hT
    exact fun j hj => hT.1 j (List.mem_range.2 hj)
  have hmid2 : ∀ i, i < l.length → m < i → (D.getD i []).contains m = true := by
    unfold midOk at hT
    rw [Bool.and_eq_true, List.all_eq_true, List.all_eq_true] at hT
    intro i hi hmi
    have := hT.2 i (List.mem_range.2 hi)
    rw [Bool.or_eq_true] at this
    rcases this with h | h
    · have : i ≤ m := by simpa using h
      omega
    · exact h
  refine wpAny_inv (I := TwInv l m fr c (Adds w) S Φs D) ?_ ?_ _ _ _ _ ?_ ?_
  · rintro listed a w' ⟨hs, hcl, vals, rfl, hv, hor⟩ hr
    have hall : ∀ i, i < l.length → listed[i]? = some true := by
      intro i
      induction i using Nat.strongRecOn with
      | ind i ih =>
        intro hi
        have hil : i < listed.size := by omega
        cases hb : listed[i] with
        | true => simp [hil, hb]
        | false =>
          exfalso
          have ho : l[i]? = some l[i] := List.getElem?_eq_getElem hi
          have hmem : i ∈ Region.ready .any l.toArray listed := by
            unfold Region.ready
            rw [List.mem_filter]
            refine ⟨by simp [hi], ?_⟩
            rw [Bool.and_eq_true]
            refine ⟨by simp [Array.getD, hil, hb], ?_⟩
            have : l.toArray[i]? = some l[i] := by simp
            rw [this]
            simp only [Option.map_some, Option.getD_some]
            rw [Array.all_eq_true']
            intro e he
            cases hbd : Region.binds .any e with
            | false => rfl
            | true =>
              have hk : e.on ∈ bound l[i] := by
                unfold bound
                rw [List.mem_map]
                exact ⟨e, List.mem_filter.2 ⟨Array.mem_toList_iff.2 he, hbd⟩, rfl⟩
              have hlt := (hacyc i l[i] ho).1 e.on hk
              have hle := ih e.on hlt (by omega)
              have hlt' : e.on < listed.size := by omega
              simp only [Array.getD, hlt', dite_true, Bool.not_true, Bool.false_or]
              rw [Array.getElem?_eq_getElem hlt'] at hle
              exact Option.some.inj hle
          rw [hr] at hmem
          cases hmem
    rcases hor with ⟨hC, hno⟩ | ⟨hS', hbe⟩
    · exact absurd (hall m hml) (hno m (Nat.le_refl _))
    · exact hfin vals w' hS' fun i hi => hv i (hall i hi)
  · rintro listed a w' i ⟨hs, hcl, vals, rfl, hv, hor⟩ hi
    obtain ⟨hun, o, ho, hbd⟩ := Go.PK.mem_ready hi
    have ho' : l[i]? = some o := by simpa using ho
    have hil : i < l.length := (List.getElem?_eq_some_iff.1 ho').1
    have hbd' : ∀ k ∈ bound o, listed[k]? = some true := by
      intro k hk
      unfold bound at hk
      rw [List.mem_map] at hk
      obtain ⟨e, he, rfl⟩ := hk
      rw [List.mem_filter] at he
      have := hbd e he.1 he.2
      by_cases hlt : e.on < listed.size
      · simp [Array.getD, hlt] at this
        simp [hlt, this]
      · simp [Array.getD, hlt] at this
    have hDl : ∀ j, (D.getD i []).contains j = true → listed[j]? = some true := by
      intro j hj
      rcases (hacyc i o ho').2 j hj with h | ⟨k, hk, hj'⟩
      · exact hbd' j h
      · have hkl := hbd' k hk
        have hklt : k < l.length := by have := (hacyc i o ho').1 k hk; omega
        exact (hcl k l[k] hkl (List.getElem?_eq_getElem hklt)).2 j hj'
    have hi' : listed[i]? = some false := by
      have hlt : i < listed.size := by omega
      simp [Array.getD, hlt] at hun
      simp [hlt, hun]
    have hmono : ∀ j : Nat, listed[j]? = some true → (listed.setIfInBounds i true)[j]? = some true := by
      intro j hj
      rw [Array.getElem?_setIfInBounds]
      split
      · rename_i h
        subst h
        rw [if_pos (by omega)]
      · exact hj
    have hcl' : ∀ j o', (listed.setIfInBounds i true)[j]? = some true → l[j]? = some o' → (∀ k ∈ bound o', (listed.setIfInBounds i true)[k]? = some true) ∧ ∀ k, (D.getD j []).contains k = true → (listed.setIfInBounds i true)[k]? = some true := by
      intro j o' hj ho''
      by_cases hji : j = i
      · subst hji
        rw [ho'] at ho''
        cases ho''
        exact ⟨fun k hk => hmono k (hbd' k hk), fun j' hj' => hmono j' (hDl j' hj')⟩
      · rw [Array.getElem?_setIfInBounds_ne (Ne.symm hji)] at hj
        obtain ⟨g1, g2⟩ := hcl j o' hj ho''
        exact ⟨fun k hk => hmono k (g1 k hk), fun j' hj' => hmono j' (g2 j' hj')⟩
    have back : ∀ j, j ≠ i → (listed.setIfInBounds i true)[j]? = some true → listed[j]? = some true := fun j hj h => by
      rwa [Array.getElem?_setIfInBounds_ne (Ne.symm hj)] at h
    have here : (listed.setIfInBounds i true)[i]? = some true := by rw [Array.getElem?_setIfInBounds, if_pos rfl, if_pos (by omega)]
    rcases hor with ⟨hC, hno⟩ | ⟨hS', hbe⟩
    · by_cases him : i < m
      · have hsh := ShowsA.get _ 0 hshow i o (by rw [List.getElem?_take, if_pos him]; exact ho')
        rw [Nat.zero_add] at hsh
        obtain ⟨hput, hsh⟩ := hsh
        have hrun := hsh c hX vals w' hC (fun j hj => hv j (hDl j hj)) (TwInv l m fr c (Adds w) S Φs D (listed.setIfInBounds i true)) (fun v w'' hR hΦi _ => by
          refine ⟨by simpa using hs, hcl', upd vals i v, rfl, fun j hj => ?_, .inl ⟨hC.trans hR, fun k hk hk' => hno k hk (back k (by omega) hk')⟩⟩
          unfold upd
          by_cases hji : j = i
          · subst hji
            rw [if_pos rfl]
            exact hΦi
          · rw [if_neg hji]
            exact hΦ.get _ _ _ _ _ (hv j (back j hji hj)) hR)
        unfold wpOp
        rw [ho]
        show if Region.wanted o (yielded l.toArray (fr c vals).tmps) = true then _ else _
        split
        · rename_i hw
          rw [if_pos hw] at hrun
          exact .inl hrun
        · rename_i hw
          rw [if_neg hw] at hrun
          exact hrun
      · have heq : i = m := by
          rcases Nat.lt_or_ge m i with h | h
          · exact absurd (hDl m (hmid2 i hil h)) (hno m (Nat.le_refl _))
          · omega
        subst heq
        have hbe : ∀ j, j < i → listed[j]? = some true := fun j hj => hDl j (hmid1 j hj)
        obtain ⟨h1, h2⟩ := hwr o ho' vals w' hC (fun j hj => hv j (hbe j hj)) (TwInv l i fr c (Adds w) S Φs D (listed.setIfInBounds i true)) fun v w'' ⟨hΦi, hSv⟩ => ⟨by simpa using hs, hcl', upd vals i v, rfl, fun j hj => (by
          unfold upd
          by_cases hji : j = i
          · subst hji
            rw [if_pos rfl]
            exact hΦi
          · rw [if_neg hji]
            have hlj := back j hji hj
            have hji2 : j < i := by
              rcases Nat.lt_or_ge j i with h | h
              · exact h
              · exact absurd hlj (hno j (by omega))
            exact hind j _ w' w'' hji2 (hv j hlj)), .inr ⟨hSv, fun k hk => (by
          by_cases hki : k = i
          · subst hki
            exact here
          · exact hmono k (hbe k (by omega)))⟩⟩
        unfold wpOp
        rw [ho]
        show if Region.wanted o (yielded l.toArray (fr c vals).tmps) = true then _ else _
        rw [if_pos h1]
        exact .inl h2
    · have him : m < i := by
        rcases Nat.lt_or_ge m i with h | h
        · exact h
        · rw [hbe i h] at hi'
          cases hi'
      have hsh := ShowsA.get _ (m + 1) hshow2 (i - (m + 1)) o (by rw [List.getElem?_drop, show m + 1 + (i - (m + 1)) = i from by omega]; exact ho')
      rw [show m + 1 + (i - (m + 1)) = i from by omega] at hsh
      obtain ⟨hput, hsh⟩ := hsh
      have hrun := hsh c hX vals w' hS' (fun j hj => hv j (hDl j hj)) (TwInv l m fr c (Adds w) S Φs D (listed.setIfInBounds i true)) (fun v w'' hR hΦi _ => by
        refine ⟨by simpa using hs, hcl', upd vals i v, rfl, fun j hj => ?_, .inr ⟨hS _ _ hS' hR, fun k hk => hmono k (hbe k hk)⟩⟩
        unfold upd
        by_cases hji : j = i
        · subst hji
          rw [if_pos rfl]
          exact hΦi
        · rw [if_neg hji]
          exact hΦ.get _ _ _ _ _ (hv j (back j hji hj)) hR)
      unfold wpOp
      rw [ho]
      show if Region.wanted o (yielded l.toArray (fr c vals).tmps) = true then _ else _
      split
      · rename_i hw
        rw [if_pos hw] at hrun
        exact .inl hrun
      · rename_i hw
        rw [if_neg hw] at hrun
        exact hrun
  · show unlisted (Array.replicate l.toArray.size false) ≤ l.toArray.size
    unfold unlisted
    have := List.countP_le_length (p := (! ·)) (l := (Array.replicate l.toArray.size false).toList)
    simpa using this
  · have hnone : ∀ i : Nat, (Array.replicate l.toArray.size false)[i]? ≠ some true := by
      intro i hi
      rw [Array.getElem?_replicate] at hi
      split at hi <;> cases hi
    exact ⟨by simp, fun i o hi => absurd hi (hnone i), vals0, rfl, fun i hi => absurd hi (hnone i), .inl ⟨(Adds.refl w).drew, fun i _ => hnone i⟩⟩
theorem unwanted_undef {ops : Array Oper} {tmps : Array Value} {o oj : Oper} {j : Nat} {want : Bool} {d : Nat} {x : Value} (hg : o.guard = some (j, want)) (hj : ops[j]? = some oj) (hd : oj.dst = some d) (hv : tmps[d]? = some x) (hx : x = undef) :
    Region.wanted o (yielded ops tmps) = false := by
  subst hx
  simp [Region.wanted, hg, yielded, hj, hd, hv, undef]
theorem showA_undef {ops : Array Oper} {fr : (Nat → Value) → (Nat → Value) → Act} {X : (Nat → Value) → Prop} {C : World → Prop} {Φs : List (Value → World → Prop)} {D : List (List Nat)} {As : List Nat} {o : Oper} (k : Nat) (hput : ∀ c vals v, (fr c vals).put o.dst v = fr c (upd vals k v)) {j : Nat} {want : Bool} {oj : Oper} {d : Nat} (hg : o.guard = some (j, want)) (hj : ops[j]? = some oj) (hd : oj.dst = some d)
    (hv : ∀ c vals, (fr c vals).tmps[d]? = some (vals j)) (hA : As.contains k = false)
    (h : ∀ (vals : Nat → Value) w, C w → (∀ j, (D.getD k []).contains j = true → Φs.getD j (fun _ _ => True) (vals j) w) → vals j = undef ∧ Φs.getD k (fun _ _ => True) undef w) :
    ShowA P ops Q fr X C Φs D As k o := by
  refine ⟨hput, fun c _ vals w hC hD K hK => ?_⟩
  obtain ⟨h1, h2⟩ := h vals w hC hD
  refine ite_no (unwanted_undef hg hj hd (hv c vals) h1) ?_
  rw [hput]
  exact hK _ w (Adds.refl _) h2 (fun h => by rw [hA] at h; cases h)
end
end Go.PK
namespace Go.Proofs.Ytejmbkljnhnklaa
open Go.RowKit Go.PK
theorem kept_short {l : List Ev} (h : l.length ≤ 1024) : kept l l.length = l := by rw [kept, List.take_length, List.take_of_length_le h]
theorem slice_of_K {w : World} {v : Value} {l : List Ev} (h : (rSlice rEv).K w [v] l) : ∃ ao cap, v = .slice ao l.length cap ∧ Elems rEv w ao l := by
  obtain ⟨ao, cap, e, -, -, -, hE⟩ := h
  exact ⟨ao, cap, by simpa using e, hE⟩
set_option maxRecDepth 100000 in
set_option maxHeartbeats 4000000 in
theorem ChainGrows_walk (w0 : World) (v1 : Value) (l1 : List Ev) (hK1 : (rSlice rEv).K w0 [v1] l1) (ho1 : (rSlice rEv).ok l1) (v2 : Value) (l2 : List Ev) (hK2 : (rSlice rEv).K w0 [v2] l2) (ho2 : (rSlice rEv).ok l2)
    (cs : List Value) (e : Ev) (hKe : rEv.K w0 cs e) (_hoe : rEv.ok e) :
    Calls Try.prog 13 #[v1, v2, .agg cs.toArray] w0 fun x w' => x = .returned (.bool true) ∧ Below w0.heap.size w0 w' := by
  obtain ⟨ao1, cap1, rfl, hE1⟩ := slice_of_K hK1
  obtain ⟨ao2, cap2, rfl, hE2⟩ := slice_of_K hK2
  obtain ⟨rfl, hel⟩ := ev_K hKe
  have hl1 : l1.length ≤ 140737488351232 := ho1.1
  have hl2 : l2.length ≤ 140737488351232 := ho2.1
  have hg1 : ∀ e ∈ l1, Chain.Good e := ho1.2
  have hg2 : ∀ e ∈ l2, Chain.Good e := ho2.2
  have hL1 : ∀ e ∈ l1, Len e.1 32 := fun e he => (hg1 e he).1
  have hL2 : ∀ e ∈ l2, Len e.1 32 := fun e he => (hg2 e he).1
  clear hK1 hK2 hKe ho1 ho2
  by_cases hb1 : 1023 < l1.length
  · have hi1 : (1023 : Int) < (l1.length : Int) := by omega
    generalize l1.length = k1 at *
    generalize l2.length = k2 at *
    have hcl := evC_len hel
    have hM := Mem.start w0
    go_enter Try.func13, Try.ntmps13
    go_wp2_with (first
      | ((with_reducible refine gL_box (dst := some 5) hM ?_); refine ⟨_, evC e, 33, rfl, rfl, hcl, ?_⟩; intro g5 _ hM2; clear hM; have hM := hM2; clear hM2)
      | (go_at_call 34; (with_reducible refine (law16_fixed _).mono ?_); rintro _ _ ⟨rfl, B1⟩; replace hM := hM.adds B1; clear B1))
    go_ret
    exact ⟨rfl, hM.done⟩
  by_cases hb2 : 1023 < l2.length
  · have hi1 : ¬ (1023 : Int) < (l1.length : Int) := by omega
    have hi2 : (1023 : Int) < (l2.length : Int) := by omega
    generalize l1.length = k1 at *
    generalize l2.length = k2 at *
    have hcl := evC_len hel
    have hM := Mem.start w0
    go_enter Try.func13, Try.ntmps13
    go_wp2_with (first
      | ((with_reducible refine gL_box (dst := some 5) hM ?_); refine ⟨_, evC e, 33, rfl, rfl, hcl, ?_⟩; intro g5 _ hM2; clear hM; have hM := hM2; clear hM2)
      | (go_at_call 34; (with_reducible refine (law16_fixed _).mono ?_); rintro _ _ ⟨rfl, B1⟩; replace hM := hM.adds B1; clear B1))
    go_ret
    exact ⟨rfl, hM.done⟩
  have hi1 : ¬ (1023 : Int) < (l1.length : Int) := by omega
  have hi2 : ¬ (1023 : Int) < (l2.length : Int) := by omega
  obtain ⟨R1, hR1⟩ : ∃ R, Chain.reg l1 = R := ⟨_, rfl⟩
  obtain ⟨R2, hR2⟩ : ∃ R, Chain.reg l2 = R := ⟨_, rfl⟩
  have hRl1 : Len R1 32 := by rw [← hR1]; exact Len.of (Chain.reg_len _)
  have hRl2 : Len R2 32 := by rw [← hR2]; exact Len.of (Chain.reg_len _)
  obtain ⟨M, hM0⟩ : ∃ M, Chain.meas e = M := ⟨_, rfl⟩
  have hMl : Len M 32 := by rw [← hM0]; exact Len.of (Chain.meas_len _)
  obtain ⟨R3, hR3⟩ : ∃ R, Chain.reg (l1 ++ [e]) = R := ⟨_, rfl⟩
  have hRl3 : Len R3 32 := by rw [← hR3]; exact Len.of (Chain.reg_len _)
  have hX : Chain.ext R1 M = R3 := by rw [← hR3, Chain.reg_snoc, hR1, hM0]
  obtain ⟨zs, hzs⟩ : ∃ z, (l1 == l2) = z := ⟨_, rfl⟩
  obtain ⟨br, hbr⟩ : ∃ z, (R1 == R2) = z := ⟨_, rfl⟩
  obtain ⟨zc, hzc⟩ : ∃ z, Chain.clash [] [] l1 [] l2 = z := ⟨_, rfl⟩
  obtain ⟨za, hza⟩ : ∃ z, Chain.zero l1 = z := ⟨_, rfl⟩
  obtain ⟨zb, hzb⟩ : ∃ z, Chain.zero l2 = z := ⟨_, rfl⟩
  have HW : br = zs ∨ (br = true ∧ zs = false ∧ (zc = true ∨ (zc = false ∧ za = true) ∨ (zc = false ∧ za = false ∧ zb = true))) := by
    cases hzsv : zs with
    | true =>
      left
      rw [hzsv] at hzs
      rw [← hbr, ← hR1, ← hR2, eq_of_beq hzs]
      exact beq_self_eq_true _
    | false =>
      cases hbv : br with
      | false => exact .inl rfl
      | true =>
        right
        rw [hbv] at hbr
        rw [hzsv] at hzs
        refine ⟨rfl, rfl, ?_⟩
        have hrr : Chain.reg l1 = Chain.reg l2 := by rw [hR1, hR2]; exact eq_of_beq hbr
        rcases Chain.reg_unlike hg1 hg2 hrr with h | h | h | h
        · rw [h] at hzs; simp at hzs
        · exact .inl (hzc ▸ h)
        · cases zc with
          | true => exact .inl rfl
          | false => exact .inr (.inl ⟨rfl, hza ▸ h⟩)
        · cases zc with
          | true => exact .inl rfl
          | false =>
            cases za with
            | true => exact .inr (.inl ⟨rfl, rfl⟩)
            | false => exact .inr (.inr ⟨rfl, rfl, hzb ▸ h⟩)
  have hlog1 : ∀ w, Adds w0 w → _ := fun w hw => law16_logged w ao1 cap1 l1 (hE1.adds hw) (by omega)
  have hlog2 : ∀ w, Adds w0 w → _ := fun w hw => law16_logged w ao2 cap2 l2 (hE2.adds hw) (by omega)
  rw [kept_short (by omega)] at hlog1 hlog2
  have hsame : ∀ w, Adds w0 w → _ := fun w hw => ref16_Same w ao1 cap1 l1 (hE1.adds hw) (by omega) ao2 cap2 l2 (hE2.adds hw) zs hzs
  have hclu : ∀ w, Adds w0 w → _ := fun w hw => ref16_Clash w (.slice none 0 0) [] (Bytes.nil _) (by decide) (.slice none 0 0) [] (Bytes.nil _) (by decide) ao1 cap1 l1 (hE1.adds hw) (by omega) (.slice none 0 0) [] (Bytes.nil _) (by decide) ao2 cap2 l2 (hE2.adds hw) (by omega) zc hzc
  have hzer1 : ∀ w, Adds w0 w → _ := fun w hw => ref16_Zero w ao1 cap1 l1 (hE1.adds hw) (by omega) za hza
  have hzer2 : ∀ w, Adds w0 w → _ := fun w hw => ref16_Zero w ao2 cap2 l2 (hE2.adds hw) (by omega) zb hzb
  have hreg1 : ∀ w gl ob capL, Row w gl 122 [sl ob l1.length capL] → Elems rEv w (ob.map fun g => ⟨g, 0, none⟩) l1 → _ := fun w gl ob capL hR hE => log_Register w gl ob l1.length capL l1 hR hE rfl (by omega) R1 hR1
  have hreg2 : ∀ w gl ob capL, Row w gl 122 [sl ob l2.length capL] → Elems rEv w (ob.map fun g => ⟨g, 0, none⟩) l2 → _ := fun w gl ob capL hR hE => log_Register w gl ob l2.length capL l2 hR hE rfl (by omega) R2 hR2
  have hl3 : (l1 ++ [e]).length = l1.length + 1 := by simp
  have hL3 : ∀ x ∈ l1 ++ [e], Len x.1 32 := fun x hx => by
    rcases List.mem_append.1 hx with h | h
    · exact hL1 x h
    · simp at h; subst h; exact hel
  have hreg3 : ∀ w gl ob capL, Row w gl 122 [sl ob (l1.length + 1) capL] → Elems rEv w (ob.map fun g => ⟨g, 0, none⟩) (l1 ++ [e]) → _ := fun w gl ob capL hR hE => log_Register w gl ob (l1.length + 1) capL (l1 ++ [e]) hR hE hl3 (by omega) R3 hR3
  have hA1 : (evs l1).length = l1.length * 33 := evs_len hL1
  have hA3 : (evs (l1 ++ [e])).length = (l1.length + 1) * 33 := by rw [evs_len hL3, hl3]
  have hsn : evs l1 ++ evC e = evs (l1 ++ [e]) := evs_snoc l1 e
  have hcl := evC_len hel
  have hme : ∀ w, _ := fun w => chain_Measure w e hel M hM0
  have hext : ∀ w, _ := fun w => chain_Extend w R1 M hRl1 hMl R3 hX
  have hevo : ∀ v ∈ evs (l1 ++ [e]), v.oneCell' = true := fun v hv => by
    rw [evs, List.mem_flatMap] at hv
    obtain ⟨e, _, h⟩ := hv
    exact evC_one e v h
  clear hR1 hR2 hR3 hM0 hX hzs hzc hza hzb hl3 hg1 hg2
  obtain ⟨k1, hk1⟩ : ∃ k, k = l1.length := ⟨_, rfl⟩
  obtain ⟨k2, hk2⟩ : ∃ k, k = l2.length := ⟨_, rfl⟩
  rw [← hk1] at hlog1 hsame hclu hzer1 hreg1 hreg3 hA1 hA3 hi1 hb1 hl1 ⊢
  rw [← hk2] at hlog2 hsame hclu hzer2 hreg2 hi2 hb2 hl2 ⊢
  clear hk1 hk2 hE1 hE2
  obtain ⟨l3, hl3e⟩ : ∃ l, l = l1 ++ [e] := ⟨_, rfl⟩
  rw [← hl3e] at hL3 hreg3 hA3 hsn hevo
  clear hl3e
  have hM := Mem.start w0
  go_enter Try.func13, Try.ntmps13
  go_wp2_with (first
    | ((with_reducible refine gL_box (dst := some 5) hM ?_); refine ⟨_, evC e, 33, rfl, rfl, hcl, ?_⟩; intro g5 _ hM2; clear hM; have hM := hM2; clear hM2))
  refine (hlog1 _ hM.done).mono ?_
  rintro _ w1 ⟨gl1, ob1, cl1, rfl, hcl1, hM3⟩
  replace hM := hM.addMem hM3
  clear hM3 hlog1
  go_wp2_with fail
  refine (hlog2 _ hM.done).mono ?_
  rintro _ w2 ⟨gl2, ob2, cl2, rfl, hcl2, hM3⟩
  replace hM := hM.addMem hM3
  clear hM3 hlog2
  simp only [List.cons_append, List.nil_append] at hM
  go_wp2_with fail
  refine (hreg1 _ gl1 ob1 cl1 (hM.rowN (.tail _ (.tail _ (.head _))) rfl) (evs_elems hM (.tail _ (.tail _ (.tail _ (.head _)))) hL1)).mono ?_
  rintro _ w3 ⟨rfl, hB⟩
  replace hM := hM.adds hB
  clear hB hreg1
  go_wp2_with fail
  refine (hreg2 _ gl2 ob2 cl2 (hM.rowN (.head _) rfl) (evs_elems hM (.tail _ (.head _)) hL2)).mono ?_
  rintro _ w4 ⟨rfl, hB⟩
  replace hM := hM.adds hB
  clear hB hreg2
  go_wp2_with (first
    | ((first | ((with_reducible refine gL_alloc (dst := some 9) hM ?_); refine ⟨_, _, (zr_of rfl), ?_⟩) | ((with_reducible refine gL_box (dst := some 9) hM ?_); refine ⟨_, _, _, rfl, rfl, (by first | assumption | exact Len.map (by assumption) _ | rfl | exact Len.map (by rfl) _ | exact Len.of (by simp; done)), ?_⟩)); intro g9 _ hM2; clear hM; have hM := hM2; clear hM2)
    | ((first | ((with_reducible refine gL_alloc (dst := some 10) hM ?_); refine ⟨_, _, (zr_of rfl), ?_⟩) | ((with_reducible refine gL_box (dst := some 10) hM ?_); refine ⟨_, _, _, rfl, rfl, (by first | assumption | exact Len.map (by assumption) _ | rfl | exact Len.map (by rfl) _ | exact Len.of (by simp; done)), ?_⟩)); intro g10 _ hM2; clear hM; have hM := hM2; clear hM2)
    | ((with_reducible refine gL_store hM ?_); refine ⟨_, .agg (R1.map B8).toArray, _, rfl, rfl, hM.stores_all (.there _ (.here _ _ _)) (ag_of rfl) (hRl1.map _) (by rfl) B8_one, ?_⟩; intro _ hM2; clear hM; have hM := hM2; clear hM2)
    | ((with_reducible refine gL_store hM ?_); refine ⟨_, .agg (R2.map B8).toArray, _, rfl, rfl, hM.stores_all (.here _ _ _) (ag_of rfl) (hRl2.map _) (by rfl) B8_one, ?_⟩; intro _ hM2; clear hM; have hM := hM2; clear hM2))
  rename_i w5 K1 hK1 K2 hK2
  have heq := hash_eq R1 R2 hRl1 hRl2
  rw [hbr] at heq
  clear hbr
  rcases HW with rfl | ⟨rfl, rfl, rfl | ⟨rfl, rfl⟩ | ⟨rfl, rfl, rfl⟩⟩
  case' inl =>
    try simp only [Act.put, List.setIfInBounds_toArray, List.set_cons_succ, List.set_cons_zero]
    refine wp_region_tail 26 (by decide) (fun c vals => ⟨#[(Value.slice ao1 k1 cap1 : Value), (Value.slice ao2 k2 cap2 : Value), c 2, c 3, c 4, c 5, c 6, c 7, c 8, (Value.pointer (some ⟨g9, 0, none⟩) : Value), (Value.pointer (some ⟨g10, 0, none⟩) : Value), c 11, c 12, c 13, c 14, c 15, c 16, c 17, c 18, c 19, c 20, c 21, c 22, c 23, c 24, c 25, c 26, c 27, c 28, c 29, c 30, c 31, c 32, c 33, vals 0, vals 1, vals 2, vals 3, vals 4, vals 5, vals 6, vals 7, vals 8, vals 9, vals 10, vals 11, vals 12, vals 13, vals 14, vals 15, vals 16, vals 17, vals 18, vals 19, vals 20, vals 21, vals 22, vals 23, vals 24, vals 25, c 60, c 61, c 62, c 63, c 64, c 65, c 66, c 67, c 68, c 69, c 70, c 71, c 72, c 73, c 74, c 75, c 76, c 77, c 78, c 79, c 80, c 81, c 82, c 83, c 84], []⟩) (fun t => [undef, undef, _, _, _, _, _, _, _, undef, undef, _, _, _, _, _, _, _, _, _, _, _, _, _, _, _, _, _, _, _, _, _, _, _, undef, undef, undef, undef, undef, undef, undef, undef, undef, undef, undef, undef, undef, undef, undef, undef, undef, undef, undef, undef, undef, undef, undef, undef, undef, undef, _, _, _, _, _, _, _, _, _, _, _, _, _, _, _, _, _, _, _, _, _, _, _, _, _].getD t undef) (fun i => [_, _, _, _, _, _, _, _, _, _, _, _, _, _, _, _, _, _, _, _, _, _, _, _, _, _].getD i undef) (by kernel_rfl)
      [[], [], [0, 1], [], [], [3, 4], [0, 1, 2, 3, 4, 5], [0, 1, 2, 3, 4, 5, 6], [0, 1, 2, 3, 4, 5, 6, 7], [0, 1, 2, 3, 4, 5, 6, 7], [0, 1, 2, 3, 4, 5, 6, 7, 8, 9], [0, 1, 2, 3, 4, 5, 6, 7, 8, 9, 10], [0, 1, 2, 3, 4, 5, 6, 7, 8, 9, 10, 11], [0, 1, 2, 3, 4, 5, 6, 7, 8, 9, 10, 11], [0, 1, 2, 3, 4, 5, 6, 7, 8, 9, 10, 11, 12, 13], [0, 1, 2, 3, 4, 5, 6, 7, 8, 9, 10, 11, 12, 13, 14], [0, 1, 2, 3, 4, 5, 6, 7, 8, 9, 10, 11, 12, 13, 14, 15], [0, 1, 2, 3, 4, 5, 6, 7, 8, 9, 10, 11, 12, 13, 14, 15, 16], [0, 1, 2, 3, 4, 5, 6, 7, 8, 9, 10, 11, 12, 13, 14, 15, 16, 17], [0, 1, 2, 3, 4, 5, 6, 7, 8, 9, 10, 11, 12, 13, 14, 15, 16, 17, 18], [0, 1, 2, 3, 4, 5, 6, 7, 8, 9, 10, 11, 12, 13, 14, 15, 16, 17, 18, 19], [0, 1, 2, 3, 4, 5, 6, 7, 8, 9, 10, 11, 12, 13, 14, 15, 16, 17, 18, 19, 20], [0, 1, 2, 3, 4, 5, 6, 7, 8, 9, 10, 11, 12, 13, 14, 15, 16, 17, 18, 19, 20, 21], [0, 1, 2, 3, 4, 5, 6, 7, 8, 9, 10, 11, 12, 13, 14, 15, 16, 17, 18, 19, 20, 21, 22], [0, 1, 2, 3, 4, 5, 6, 7, 8, 9, 10, 11, 12, 13, 14, 15, 16, 17, 18, 19, 20, 21, 22, 23], [0, 1, 2, 3, 4, 5, 6, 7, 8, 9, 10, 11, 12, 13, 14, 15, 16, 17, 18, 19, 20, 21, 22, 23, 24]] (by kernel_rfl) (by kernel_rfl) (fun _ => True) trivial
      [fun x _ => x = (Value.agg (R1.map B8).toArray : Value),
       fun x _ => x = (Value.agg (R2.map B8).toArray : Value),
       fun x _ => x = (Value.bool br : Value),
       fun x _ => x = (Value.slice ao1 k1 cap1 : Value),
       fun x _ => x = (Value.slice ao2 k2 cap2 : Value),
       fun x _ => x = (Value.bool br : Value),
       fun x _ => x = (Value.bool false : Value),
       fun x _ => x = (Value.bool false : Value),
       fun x _ => x = (undef : Value),
       fun x _ => x = (undef : Value),
       fun x _ => x = (undef : Value),
       fun x _ => x = (undef : Value),
       fun x _ => x = (undef : Value),
       fun x _ => x = (undef : Value),
       fun x _ => x = (undef : Value),
       fun x _ => x = (undef : Value),
       fun x _ => x = (undef : Value),
       fun x _ => x = (undef : Value),
       fun x _ => x = (undef : Value),
       fun x _ => x = (undef : Value),
       fun x _ => x = (undef : Value),
       fun x _ => x = (undef : Value),
       fun x _ => x = (undef : Value),
       fun x _ => x = (undef : Value),
       fun x _ => x = (undef : Value),
       fun x _ => x = ((Value.bool false) : Value)]
      ⟨fun _ _ _ h _ => h, fun _ _ _ h _ => h, fun _ _ _ h _ => h, fun _ _ _ h _ => h, fun _ _ _ h _ => h, fun _ _ _ h _ => h, fun _ _ _ h _ => h, fun _ _ _ h _ => h, fun _ _ _ h _ => h, fun _ _ _ h _ => h, fun _ _ _ h _ => h, fun _ _ _ h _ => h, fun _ _ _ h _ => h, fun _ _ _ h _ => h, fun _ _ _ h _ => h, fun _ _ _ h _ => h, fun _ _ _ h _ => h, fun _ _ _ h _ => h, fun _ _ _ h _ => h, fun _ _ _ h _ => h, fun _ _ _ h _ => h, fun _ _ _ h _ => h, fun _ _ _ h _ => h, fun _ _ _ h _ => h, fun _ _ _ h _ => h, fun _ _ _ h _ => h, trivial⟩ []
      ⟨?_, ?_, ?_, ?_, ?_, ?_, ?_, ?_, ?_, ?_, ?_, ?_, ?_, ?_, ?_, ?_, ?_, ?_, ?_, ?_, ?_, ?_, ?_, ?_, ?_, ?_, trivial⟩ ?_
    · refine showA_op 0 (by intro _ _ _; kernel_rfl) rfl rfl (fun c vals w hC hD => ?_)
      clear hD
      refine makes1 (x := .tmp 9) (X := Value.pointer (some ⟨g9, 0, none⟩)) (by kernel_rfl : _ = (Value.pointer (some ⟨g9, 0, none⟩) : Value)) (fun ρ rc rf q9 => ?_)
      exact makes_load ((hM.adds hC).loads_all (.tail _ (.head _)) (ag_of rfl) (hRl1.map _)) rfl q9 ⟨Adds.refl _, rfl⟩
    · refine showA_op 1 (by intro _ _ _; kernel_rfl) rfl rfl (fun c vals w hC hD => ?_)
      clear hD
      refine makes1 (x := .tmp 10) (X := Value.pointer (some ⟨g10, 0, none⟩)) (by kernel_rfl : _ = (Value.pointer (some ⟨g10, 0, none⟩) : Value)) (fun ρ rc rf q10 => ?_)
      exact makes_load ((hM.adds hC).loads_all (.head _) (ag_of rfl) (hRl2.map _)) rfl q10 ⟨Adds.refl _, rfl⟩
    · refine showA_op 2 (by intro _ _ _; kernel_rfl) rfl rfl (fun c vals w hC hD => ?_)
      have h0 : vals 0 = .agg (R1.map B8).toArray := hD 0 rfl
      have h1 : vals 1 = .agg (R2.map B8).toArray := hD 1 rfl
      clear hD
      refine makes2 (x := .tmp 34) (X := Value.agg (R1.map B8).toArray) (y := .tmp 35) (Y := Value.agg (R2.map B8).toArray) ((by kernel_rfl : _ = vals 0).trans h0) ((by kernel_rfl : _ = vals 1).trans h1) (fun ρ rc rf q34 q35 => ?_)
      clear h0 h1
      exact makes_eql heq rfl q34 q35 ⟨Adds.refl _, rfl⟩
    · refine showA_op 3 (by intro _ _ _; kernel_rfl) rfl rfl (fun c vals w hC hD => ?_)
      clear hD
      refine makes1 (x := .tmp 0) (X := Value.slice ao1 k1 cap1) (by kernel_rfl : _ = (Value.slice ao1 k1 cap1 : Value)) (fun ρ rc rf q0 => ?_)
      exact makes_move (.inl rfl) q0 ⟨Adds.refl _, rfl⟩
    · refine showA_op 4 (by intro _ _ _; kernel_rfl) rfl rfl (fun c vals w hC hD => ?_)
      clear hD
      refine makes1 (x := .tmp 1) (X := Value.slice ao2 k2 cap2) (by kernel_rfl : _ = (Value.slice ao2 k2 cap2 : Value)) (fun ρ rc rf q1 => ?_)
      exact makes_move (.inl rfl) q1 ⟨Adds.refl _, rfl⟩
    · refine showA_op 5 (by intro _ _ _; kernel_rfl) rfl rfl (fun c vals w hC hD => ?_)
      have h3 : vals 3 = .slice ao1 k1 cap1 := hD 3 rfl
      have h4 : vals 4 = .slice ao2 k2 cap2 := hD 4 rfl
      clear hD
      refine makes2 (x := .tmp 37) (X := Value.slice ao1 k1 cap1) (y := .tmp 38) (Y := Value.slice ao2 k2 cap2) ((by kernel_rfl : _ = vals 3).trans h3) ((by kernel_rfl : _ = vals 4).trans h4) (fun ρ rc rf q37 q38 => ?_)
      clear h3 h4
      refine makes_call (hsame _ ((hM.adds hC).done)) ?_ (by rintro e w' ⟨rfl, hb⟩; exact ⟨_, rfl, hb, rfl⟩)
      go_simp
    · refine showA_op 6 (by intro _ _ _; kernel_rfl) rfl rfl (fun c vals w hC hD => ?_)
      have h2 : vals 2 = .bool br := hD 2 rfl
      have h5 : vals 5 = .bool br := hD 5 rfl
      clear hD
      refine makes2 (x := .tmp 36) (X := Value.bool br) (y := .tmp 39) (Y := Value.bool br) ((by kernel_rfl : _ = vals 2).trans h2) ((by kernel_rfl : _ = vals 5).trans h5) (fun ρ rc rf q36 q39 => ?_)
      clear h2 h5
      (refine makes_value (v := .bool false) ?_ ⟨Adds.refl _, rfl⟩; cases br <;> go_simp)
    · refine showA_op 7 (by intro _ _ _; kernel_rfl) rfl rfl (fun c vals w hC hD => ?_)
      have h6 : vals 6 = .bool false := hD 6 rfl
      clear hD
      refine makes1 (x := .tmp 40) (X := Value.bool false) ((by kernel_rfl : _ = vals 6).trans h6) (fun ρ rc rf q40 => ?_)
      clear h6
      exact makes_move (.inl rfl) q40 ⟨Adds.refl _, rfl⟩
    · refine showA_not 8 (by intro _ _ _; kernel_rfl) (j := 7) (want := true) rfl rfl rfl (by intro _ _; kernel_rfl) rfl (fun vals w hC hD => ⟨hD 7 rfl, rfl⟩)
    · refine showA_not 9 (by intro _ _ _; kernel_rfl) (j := 7) (want := true) rfl rfl rfl (by intro _ _; kernel_rfl) rfl (fun vals w hC hD => ⟨hD 7 rfl, rfl⟩)
    · refine showA_not 10 (by intro _ _ _; kernel_rfl) (j := 7) (want := true) rfl rfl rfl (by intro _ _; kernel_rfl) rfl (fun vals w hC hD => ⟨hD 7 rfl, rfl⟩)
    · refine showA_not 11 (by intro _ _ _; kernel_rfl) (j := 7) (want := true) rfl rfl rfl (by intro _ _; kernel_rfl) rfl (fun vals w hC hD => ⟨hD 7 rfl, rfl⟩)
    · refine showA_undef 12 (by intro _ _ _; kernel_rfl) (j := 11) (want := true) rfl rfl rfl (by intro _ _; kernel_rfl) rfl (fun vals w hC hD => ⟨hD 11 rfl, rfl⟩)
    · refine showA_undef 13 (by intro _ _ _; kernel_rfl) (j := 11) (want := true) rfl rfl rfl (by intro _ _; kernel_rfl) rfl (fun vals w hC hD => ⟨hD 11 rfl, rfl⟩)
    · refine showA_undef 14 (by intro _ _ _; kernel_rfl) (j := 11) (want := true) rfl rfl rfl (by intro _ _; kernel_rfl) rfl (fun vals w hC hD => ⟨hD 11 rfl, rfl⟩)
    · refine showA_undef 15 (by intro _ _ _; kernel_rfl) (j := 11) (want := true) rfl rfl rfl (by intro _ _; kernel_rfl) rfl (fun vals w hC hD => ⟨hD 11 rfl, rfl⟩)
    · refine showA_undef 16 (by intro _ _ _; kernel_rfl) (j := 15) (want := false) rfl rfl rfl (by intro _ _; kernel_rfl) rfl (fun vals w hC hD => ⟨hD 15 rfl, rfl⟩)
    · refine showA_undef 17 (by intro _ _ _; kernel_rfl) (j := 15) (want := false) rfl rfl rfl (by intro _ _; kernel_rfl) rfl (fun vals w hC hD => ⟨hD 15 rfl, rfl⟩)
    · refine showA_undef 18 (by intro _ _ _; kernel_rfl) (j := 11) (want := true) rfl rfl rfl (by intro _ _; kernel_rfl) rfl (fun vals w hC hD => ⟨hD 11 rfl, rfl⟩)
    · refine showA_undef 19 (by intro _ _ _; kernel_rfl) (j := 11) (want := true) rfl rfl rfl (by intro _ _; kernel_rfl) rfl (fun vals w hC hD => ⟨hD 11 rfl, rfl⟩)
    · refine showA_undef 20 (by intro _ _ _; kernel_rfl) (j := 19) (want := false) rfl rfl rfl (by intro _ _; kernel_rfl) rfl (fun vals w hC hD => ⟨hD 19 rfl, rfl⟩)
    · refine showA_undef 21 (by intro _ _ _; kernel_rfl) (j := 19) (want := false) rfl rfl rfl (by intro _ _; kernel_rfl) rfl (fun vals w hC hD => ⟨hD 19 rfl, rfl⟩)
    · refine showA_undef 22 (by intro _ _ _; kernel_rfl) (j := 11) (want := true) rfl rfl rfl (by intro _ _; kernel_rfl) rfl (fun vals w hC hD => ⟨hD 11 rfl, rfl⟩)
    · refine showA_not 23 (by intro _ _ _; kernel_rfl) (j := 7) (want := true) rfl rfl rfl (by intro _ _; kernel_rfl) rfl (fun vals w hC hD => ⟨hD 7 rfl, rfl⟩)
    · refine showA_not 24 (by intro _ _ _; kernel_rfl) (j := 7) (want := true) rfl rfl rfl (by intro _ _; kernel_rfl) rfl (fun vals w hC hD => ⟨hD 7 rfl, rfl⟩)
    · refine showA_op 25 (by intro _ _ _; kernel_rfl) rfl rfl (fun c vals w hC hD => ?_)
      have h7 : vals 7 = .bool false := hD 7 rfl
      have h24 : vals 24 = undef := hD 24 rfl
      clear hD
      refine makes2 (x := .tmp 41) (X := Value.bool false) (y := .tmp 58) (Y := undef) ((by kernel_rfl : _ = vals 7).trans h7) ((by kernel_rfl : _ = vals 24).trans h24) (fun ρ rc rf q41 q58 => ?_)
      clear h7 h24
      refine makes_value (v := (Value.bool false)) ?_ ⟨Adds.refl _, rfl⟩
      go_simp
      all_goals first | done | rfl | (rw [if_pos (by omega)]; refine congrArg (fun x => Result.ok (Next.value (Value.pointer (some ⟨_, x, none⟩))) _) ?_; omega) | (rw [wrapP_i64]; omega) | go_num | (simp; omega) | (congr 1; first | (rw [wrapP_i64]; omega) | (simp; omega))
    intro vals w' hC hΦ hne
    have h25 : vals 25 = (Value.bool false) := hΦ 25 (by decide)
    clear hΦ hne
    simp only [List.getD_eq_getElem?_getD, List.getElem?_cons_zero, List.getElem?_cons_succ, Option.getD_some, List.drop_succ_cons, List.drop_zero]
    simp only [h25]
    clear h25
    try simp only [tuple_undef]
    replace hM := hM.adds hC
    clear hC
  case' inr.inl =>
    try simp only [Act.put, List.setIfInBounds_toArray, List.set_cons_succ, List.set_cons_zero]
    refine wp_region_tail 26 (by decide) (fun c vals => ⟨#[(Value.slice ao1 k1 cap1 : Value), (Value.slice ao2 k2 cap2 : Value), c 2, c 3, c 4, c 5, c 6, c 7, c 8, (Value.pointer (some ⟨g9, 0, none⟩) : Value), (Value.pointer (some ⟨g10, 0, none⟩) : Value), c 11, c 12, c 13, c 14, c 15, c 16, c 17, c 18, c 19, c 20, c 21, c 22, c 23, c 24, c 25, c 26, c 27, c 28, c 29, c 30, c 31, c 32, c 33, vals 0, vals 1, vals 2, vals 3, vals 4, vals 5, vals 6, vals 7, vals 8, vals 9, vals 10, vals 11, vals 12, vals 13, vals 14, vals 15, vals 16, vals 17, vals 18, vals 19, vals 20, vals 21, vals 22, vals 23, vals 24, vals 25, c 60, c 61, c 62, c 63, c 64, c 65, c 66, c 67, c 68, c 69, c 70, c 71, c 72, c 73, c 74, c 75, c 76, c 77, c 78, c 79, c 80, c 81, c 82, c 83, c 84], []⟩) (fun t => [undef, undef, _, _, _, _, _, _, _, undef, undef, _, _, _, _, _, _, _, _, _, _, _, _, _, _, _, _, _, _, _, _, _, _, _, undef, undef, undef, undef, undef, undef, undef, undef, undef, undef, undef, undef, undef, undef, undef, undef, undef, undef, undef, undef, undef, undef, undef, undef, undef, undef, _, _, _, _, _, _, _, _, _, _, _, _, _, _, _, _, _, _, _, _, _, _, _, _, _].getD t undef) (fun i => [_, _, _, _, _, _, _, _, _, _, _, _, _, _, _, _, _, _, _, _, _, _, _, _, _, _].getD i undef) (by kernel_rfl)
      [[], [], [0, 1], [], [], [3, 4], [0, 1, 2, 3, 4, 5], [0, 1, 2, 3, 4, 5, 6], [0, 1, 2, 3, 4, 5, 6, 7], [0, 1, 2, 3, 4, 5, 6, 7], [0, 1, 2, 3, 4, 5, 6, 7, 8, 9], [0, 1, 2, 3, 4, 5, 6, 7, 8, 9, 10], [0, 1, 2, 3, 4, 5, 6, 7, 8, 9, 10, 11], [0, 1, 2, 3, 4, 5, 6, 7, 8, 9, 10, 11], [0, 1, 2, 3, 4, 5, 6, 7, 8, 9, 10, 11, 12, 13], [0, 1, 2, 3, 4, 5, 6, 7, 8, 9, 10, 11, 12, 13, 14], [0, 1, 2, 3, 4, 5, 6, 7, 8, 9, 10, 11, 12, 13, 14, 15], [0, 1, 2, 3, 4, 5, 6, 7, 8, 9, 10, 11, 12, 13, 14, 15, 16], [0, 1, 2, 3, 4, 5, 6, 7, 8, 9, 10, 11, 12, 13, 14, 15, 16, 17], [0, 1, 2, 3, 4, 5, 6, 7, 8, 9, 10, 11, 12, 13, 14, 15, 16, 17, 18], [0, 1, 2, 3, 4, 5, 6, 7, 8, 9, 10, 11, 12, 13, 14, 15, 16, 17, 18, 19], [0, 1, 2, 3, 4, 5, 6, 7, 8, 9, 10, 11, 12, 13, 14, 15, 16, 17, 18, 19, 20], [0, 1, 2, 3, 4, 5, 6, 7, 8, 9, 10, 11, 12, 13, 14, 15, 16, 17, 18, 19, 20, 21], [0, 1, 2, 3, 4, 5, 6, 7, 8, 9, 10, 11, 12, 13, 14, 15, 16, 17, 18, 19, 20, 21, 22], [0, 1, 2, 3, 4, 5, 6, 7, 8, 9, 10, 11, 12, 13, 14, 15, 16, 17, 18, 19, 20, 21, 22, 23], [0, 1, 2, 3, 4, 5, 6, 7, 8, 9, 10, 11, 12, 13, 14, 15, 16, 17, 18, 19, 20, 21, 22, 23, 24]] (by kernel_rfl) (by kernel_rfl) (fun _ => True) trivial
      [fun x _ => x = (Value.agg (R1.map B8).toArray : Value),
       fun x _ => x = (Value.agg (R2.map B8).toArray : Value),
       fun x _ => x = (Value.bool true : Value),
       fun x _ => x = (Value.slice ao1 k1 cap1 : Value),
       fun x _ => x = (Value.slice ao2 k2 cap2 : Value),
       fun x _ => x = (Value.bool false : Value),
       fun x _ => x = (Value.bool true : Value),
       fun x _ => x = (Value.bool true : Value),
       fun x _ => x = (Value.agg (R1.map B8).toArray : Value),
       fun x _ => x = (Value.agg (R2.map B8).toArray : Value),
       fun x _ => x = (Value.bool true : Value),
       fun x _ => x = (Value.bool true : Value),
       fun x _ => x = (Value.slice ao1 k1 cap1 : Value),
       fun x _ => x = (Value.slice ao2 k2 cap2 : Value),
       fun x _ => x = (Value.bool true : Value),
       fun x _ => x = (Value.bool true : Value),
       fun x _ => x = (undef : Value),
       fun x _ => x = (undef : Value),
       fun x _ => x = ((Value.bool true) : Value),
       fun x _ => x = ((Value.bool true) : Value),
       fun x _ => x = (undef : Value),
       fun x _ => x = (undef : Value),
       fun x _ => x = ((Value.bool true) : Value),
       fun x _ => x = ((Value.bool true) : Value),
       fun x _ => x = (Value.bool false : Value),
       fun x _ => x = (Value.bool false : Value)]
      ⟨fun _ _ _ h _ => h, fun _ _ _ h _ => h, fun _ _ _ h _ => h, fun _ _ _ h _ => h, fun _ _ _ h _ => h, fun _ _ _ h _ => h, fun _ _ _ h _ => h, fun _ _ _ h _ => h, fun _ _ _ h _ => h, fun _ _ _ h _ => h, fun _ _ _ h _ => h, fun _ _ _ h _ => h, fun _ _ _ h _ => h, fun _ _ _ h _ => h, fun _ _ _ h _ => h, fun _ _ _ h _ => h, fun _ _ _ h _ => h, fun _ _ _ h _ => h, fun _ _ _ h _ => h, fun _ _ _ h _ => h, fun _ _ _ h _ => h, fun _ _ _ h _ => h, fun _ _ _ h _ => h, fun _ _ _ h _ => h, fun _ _ _ h _ => h, fun _ _ _ h _ => h, trivial⟩ []
      ⟨?_, ?_, ?_, ?_, ?_, ?_, ?_, ?_, ?_, ?_, ?_, ?_, ?_, ?_, ?_, ?_, ?_, ?_, ?_, ?_, ?_, ?_, ?_, ?_, ?_, ?_, trivial⟩ ?_
    · refine showA_op 0 (by intro _ _ _; kernel_rfl) rfl rfl (fun c vals w hC hD => ?_)
      clear hD
      refine makes1 (x := .tmp 9) (X := Value.pointer (some ⟨g9, 0, none⟩)) (by kernel_rfl : _ = (Value.pointer (some ⟨g9, 0, none⟩) : Value)) (fun ρ rc rf q9 => ?_)
      exact makes_load ((hM.adds hC).loads_all (.tail _ (.head _)) (ag_of rfl) (hRl1.map _)) rfl q9 ⟨Adds.refl _, rfl⟩
    · refine showA_op 1 (by intro _ _ _; kernel_rfl) rfl rfl (fun c vals w hC hD => ?_)
      clear hD
      refine makes1 (x := .tmp 10) (X := Value.pointer (some ⟨g10, 0, none⟩)) (by kernel_rfl : _ = (Value.pointer (some ⟨g10, 0, none⟩) : Value)) (fun ρ rc rf q10 => ?_)
      exact makes_load ((hM.adds hC).loads_all (.head _) (ag_of rfl) (hRl2.map _)) rfl q10 ⟨Adds.refl _, rfl⟩
    · refine showA_op 2 (by intro _ _ _; kernel_rfl) rfl rfl (fun c vals w hC hD => ?_)
      have h0 : vals 0 = .agg (R1.map B8).toArray := hD 0 rfl
      have h1 : vals 1 = .agg (R2.map B8).toArray := hD 1 rfl
      clear hD
      refine makes2 (x := .tmp 34) (X := Value.agg (R1.map B8).toArray) (y := .tmp 35) (Y := Value.agg (R2.map B8).toArray) ((by kernel_rfl : _ = vals 0).trans h0) ((by kernel_rfl : _ = vals 1).trans h1) (fun ρ rc rf q34 q35 => ?_)
      clear h0 h1
      exact makes_eql heq rfl q34 q35 ⟨Adds.refl _, rfl⟩
    · refine showA_op 3 (by intro _ _ _; kernel_rfl) rfl rfl (fun c vals w hC hD => ?_)
      clear hD
      refine makes1 (x := .tmp 0) (X := Value.slice ao1 k1 cap1) (by kernel_rfl : _ = (Value.slice ao1 k1 cap1 : Value)) (fun ρ rc rf q0 => ?_)
      exact makes_move (.inl rfl) q0 ⟨Adds.refl _, rfl⟩
    · refine showA_op 4 (by intro _ _ _; kernel_rfl) rfl rfl (fun c vals w hC hD => ?_)
      clear hD
      refine makes1 (x := .tmp 1) (X := Value.slice ao2 k2 cap2) (by kernel_rfl : _ = (Value.slice ao2 k2 cap2 : Value)) (fun ρ rc rf q1 => ?_)
      exact makes_move (.inl rfl) q1 ⟨Adds.refl _, rfl⟩
    · refine showA_op 5 (by intro _ _ _; kernel_rfl) rfl rfl (fun c vals w hC hD => ?_)
      have h3 : vals 3 = .slice ao1 k1 cap1 := hD 3 rfl
      have h4 : vals 4 = .slice ao2 k2 cap2 := hD 4 rfl
      clear hD
      refine makes2 (x := .tmp 37) (X := Value.slice ao1 k1 cap1) (y := .tmp 38) (Y := Value.slice ao2 k2 cap2) ((by kernel_rfl : _ = vals 3).trans h3) ((by kernel_rfl : _ = vals 4).trans h4) (fun ρ rc rf q37 q38 => ?_)
      clear h3 h4
      refine makes_call (hsame _ ((hM.adds hC).done)) ?_ (by rintro e w' ⟨rfl, hb⟩; exact ⟨_, rfl, hb, rfl⟩)
      go_simp
    · refine showA_op 6 (by intro _ _ _; kernel_rfl) rfl rfl (fun c vals w hC hD => ?_)
      have h2 : vals 2 = .bool true := hD 2 rfl
      have h5 : vals 5 = .bool false := hD 5 rfl
      clear hD
      refine makes2 (x := .tmp 36) (X := Value.bool true) (y := .tmp 39) (Y := Value.bool false) ((by kernel_rfl : _ = vals 2).trans h2) ((by kernel_rfl : _ = vals 5).trans h5) (fun ρ rc rf q36 q39 => ?_)
      clear h2 h5
      refine makes_value (v := Value.bool true) ?_ ⟨Adds.refl _, rfl⟩
      go_simp
      all_goals first | done | rfl | (rw [if_pos (by omega)]; refine congrArg (fun x => Result.ok (Next.value (Value.pointer (some ⟨_, x, none⟩))) _) ?_; omega) | (rw [wrapP_i64]; omega) | go_num | (simp; omega) | (congr 1; first | (rw [wrapP_i64]; omega) | (simp; omega))
    · refine showA_op 7 (by intro _ _ _; kernel_rfl) rfl rfl (fun c vals w hC hD => ?_)
      have h6 : vals 6 = .bool true := hD 6 rfl
      clear hD
      refine makes1 (x := .tmp 40) (X := Value.bool true) ((by kernel_rfl : _ = vals 6).trans h6) (fun ρ rc rf q40 => ?_)
      clear h6
      exact makes_move (.inl rfl) q40 ⟨Adds.refl _, rfl⟩
    · refine showA_run 8 (by intro _ _ _; kernel_rfl) (j := 7) (want := true) rfl rfl rfl (by intro _ _; kernel_rfl) rfl (fun c vals w hC hD => ⟨hD 7 rfl, ?_⟩)
      clear hD
      refine makes1 (x := .tmp 9) (X := Value.pointer (some ⟨g9, 0, none⟩)) (by kernel_rfl : _ = (Value.pointer (some ⟨g9, 0, none⟩) : Value)) (fun ρ rc rf q9 => ?_)
      exact makes_load ((hM.adds hC).loads_all (.tail _ (.head _)) (ag_of rfl) (hRl1.map _)) rfl q9 ⟨Adds.refl _, rfl⟩
    · refine showA_run 9 (by intro _ _ _; kernel_rfl) (j := 7) (want := true) rfl rfl rfl (by intro _ _; kernel_rfl) rfl (fun c vals w hC hD => ⟨hD 7 rfl, ?_⟩)
      clear hD
      refine makes1 (x := .tmp 10) (X := Value.pointer (some ⟨g10, 0, none⟩)) (by kernel_rfl : _ = (Value.pointer (some ⟨g10, 0, none⟩) : Value)) (fun ρ rc rf q10 => ?_)
      exact makes_load ((hM.adds hC).loads_all (.head _) (ag_of rfl) (hRl2.map _)) rfl q10 ⟨Adds.refl _, rfl⟩
    · refine showA_run 10 (by intro _ _ _; kernel_rfl) (j := 7) (want := true) rfl rfl rfl (by intro _ _; kernel_rfl) rfl (fun c vals w hC hD => ⟨hD 7 rfl, ?_⟩)
      have h8 : vals 8 = .agg (R1.map B8).toArray := hD 8 rfl
      have h9 : vals 9 = .agg (R2.map B8).toArray := hD 9 rfl
      clear hD
      refine makes2 (x := .tmp 42) (X := Value.agg (R1.map B8).toArray) (y := .tmp 43) (Y := Value.agg (R2.map B8).toArray) ((by kernel_rfl : _ = vals 8).trans h8) ((by kernel_rfl : _ = vals 9).trans h9) (fun ρ rc rf q42 q43 => ?_)
      clear h8 h9
      exact makes_eql heq rfl q42 q43 ⟨Adds.refl _, rfl⟩
    · refine showA_run 11 (by intro _ _ _; kernel_rfl) (j := 7) (want := true) rfl rfl rfl (by intro _ _; kernel_rfl) rfl (fun c vals w hC hD => ⟨hD 7 rfl, ?_⟩)
      have h10 : vals 10 = .bool true := hD 10 rfl
      clear hD
      refine makes1 (x := .tmp 44) (X := Value.bool true) ((by kernel_rfl : _ = vals 10).trans h10) (fun ρ rc rf q44 => ?_)
      clear h10
      exact makes_move (.inl rfl) q44 ⟨Adds.refl _, rfl⟩
    · refine showA_run 12 (by intro _ _ _; kernel_rfl) (j := 11) (want := true) rfl rfl rfl (by intro _ _; kernel_rfl) rfl (fun c vals w hC hD => ⟨hD 11 rfl, ?_⟩)
      clear hD
      refine makes1 (x := .tmp 0) (X := Value.slice ao1 k1 cap1) (by kernel_rfl : _ = (Value.slice ao1 k1 cap1 : Value)) (fun ρ rc rf q0 => ?_)
      exact makes_move (.inl rfl) q0 ⟨Adds.refl _, rfl⟩
    · refine showA_run 13 (by intro _ _ _; kernel_rfl) (j := 11) (want := true) rfl rfl rfl (by intro _ _; kernel_rfl) rfl (fun c vals w hC hD => ⟨hD 11 rfl, ?_⟩)
      clear hD
      refine makes1 (x := .tmp 1) (X := Value.slice ao2 k2 cap2) (by kernel_rfl : _ = (Value.slice ao2 k2 cap2 : Value)) (fun ρ rc rf q1 => ?_)
      exact makes_move (.inl rfl) q1 ⟨Adds.refl _, rfl⟩
    · refine showA_run 14 (by intro _ _ _; kernel_rfl) (j := 11) (want := true) rfl rfl rfl (by intro _ _; kernel_rfl) rfl (fun c vals w hC hD => ⟨hD 11 rfl, ?_⟩)
      have h12 : vals 12 = .slice ao1 k1 cap1 := hD 12 rfl
      have h13 : vals 13 = .slice ao2 k2 cap2 := hD 13 rfl
      clear hD
      refine makes2 (x := .tmp 46) (X := Value.slice ao1 k1 cap1) (y := .tmp 47) (Y := Value.slice ao2 k2 cap2) ((by kernel_rfl : _ = vals 12).trans h12) ((by kernel_rfl : _ = vals 13).trans h13) (fun ρ rc rf q46 q47 => ?_)
      clear h12 h13
      refine makes_call (hclu _ ((hM.adds hC).done)) ?_ (by rintro e w' ⟨rfl, hb⟩; exact ⟨_, rfl, hb, rfl⟩)
      go_simp
    · refine showA_run 15 (by intro _ _ _; kernel_rfl) (j := 11) (want := true) rfl rfl rfl (by intro _ _; kernel_rfl) rfl (fun c vals w hC hD => ⟨hD 11 rfl, ?_⟩)
      have h14 : vals 14 = .bool true := hD 14 rfl
      clear hD
      refine makes1 (x := .tmp 48) (X := Value.bool true) ((by kernel_rfl : _ = vals 14).trans h14) (fun ρ rc rf q48 => ?_)
      clear h14
      exact makes_move (.inl rfl) q48 ⟨Adds.refl _, rfl⟩
    · refine showA_not 16 (by intro _ _ _; kernel_rfl) (j := 15) (want := false) rfl rfl rfl (by intro _ _; kernel_rfl) rfl (fun vals w hC hD => ⟨hD 15 rfl, rfl⟩)
    · refine showA_not 17 (by intro _ _ _; kernel_rfl) (j := 15) (want := false) rfl rfl rfl (by intro _ _; kernel_rfl) rfl (fun vals w hC hD => ⟨hD 15 rfl, rfl⟩)
    · refine showA_run 18 (by intro _ _ _; kernel_rfl) (j := 11) (want := true) rfl rfl rfl (by intro _ _; kernel_rfl) rfl (fun c vals w hC hD => ⟨hD 11 rfl, ?_⟩)
      have h15 : vals 15 = .bool true := hD 15 rfl
      have h17 : vals 17 = undef := hD 17 rfl
      clear hD
      refine makes2 (x := .tmp 49) (X := Value.bool true) (y := .tmp 51) (Y := undef) ((by kernel_rfl : _ = vals 15).trans h15) ((by kernel_rfl : _ = vals 17).trans h17) (fun ρ rc rf q49 q51 => ?_)
      clear h15 h17
      refine makes_value (v := (Value.bool true)) ?_ ⟨Adds.refl _, rfl⟩
      go_simp
      all_goals first | done | rfl | (rw [if_pos (by omega)]; refine congrArg (fun x => Result.ok (Next.value (Value.pointer (some ⟨_, x, none⟩))) _) ?_; omega) | (rw [wrapP_i64]; omega) | go_num | (simp; omega) | (congr 1; first | (rw [wrapP_i64]; omega) | (simp; omega))
    · refine showA_run 19 (by intro _ _ _; kernel_rfl) (j := 11) (want := true) rfl rfl rfl (by intro _ _; kernel_rfl) rfl (fun c vals w hC hD => ⟨hD 11 rfl, ?_⟩)
      have h18 : vals 18 = (Value.bool true) := hD 18 rfl
      clear hD
      refine makes1 (x := .tmp 52) (X := (Value.bool true)) ((by kernel_rfl : _ = vals 18).trans h18) (fun ρ rc rf q52 => ?_)
      clear h18
      exact makes_move (.inl rfl) q52 ⟨Adds.refl _, rfl⟩
    · refine showA_not 20 (by intro _ _ _; kernel_rfl) (j := 19) (want := false) rfl rfl rfl (by intro _ _; kernel_rfl) rfl (fun vals w hC hD => ⟨hD 19 rfl, rfl⟩)
    · refine showA_not 21 (by intro _ _ _; kernel_rfl) (j := 19) (want := false) rfl rfl rfl (by intro _ _; kernel_rfl) rfl (fun vals w hC hD => ⟨hD 19 rfl, rfl⟩)
    · refine showA_run 22 (by intro _ _ _; kernel_rfl) (j := 11) (want := true) rfl rfl rfl (by intro _ _; kernel_rfl) rfl (fun c vals w hC hD => ⟨hD 11 rfl, ?_⟩)
      have h19 : vals 19 = (Value.bool true) := hD 19 rfl
      have h21 : vals 21 = undef := hD 21 rfl
      clear hD
      refine makes2 (x := .tmp 53) (X := (Value.bool true)) (y := .tmp 55) (Y := undef) ((by kernel_rfl : _ = vals 19).trans h19) ((by kernel_rfl : _ = vals 21).trans h21) (fun ρ rc rf q53 q55 => ?_)
      clear h19 h21
      refine makes_value (v := (Value.bool true)) ?_ ⟨Adds.refl _, rfl⟩
      go_simp
      all_goals first | done | rfl | (rw [if_pos (by omega)]; refine congrArg (fun x => Result.ok (Next.value (Value.pointer (some ⟨_, x, none⟩))) _) ?_; omega) | (rw [wrapP_i64]; omega) | go_num | (simp; omega) | (congr 1; first | (rw [wrapP_i64]; omega) | (simp; omega))
    · refine showA_run 23 (by intro _ _ _; kernel_rfl) (j := 7) (want := true) rfl rfl rfl (by intro _ _; kernel_rfl) rfl (fun c vals w hC hD => ⟨hD 7 rfl, ?_⟩)
      have h11 : vals 11 = .bool true := hD 11 rfl
      have h22 : vals 22 = (Value.bool true) := hD 22 rfl
      clear hD
      refine makes2 (x := .tmp 45) (X := Value.bool true) (y := .tmp 56) (Y := (Value.bool true)) ((by kernel_rfl : _ = vals 11).trans h11) ((by kernel_rfl : _ = vals 22).trans h22) (fun ρ rc rf q45 q56 => ?_)
      clear h11 h22
      refine makes_value (v := (Value.bool true)) ?_ ⟨Adds.refl _, rfl⟩
      go_simp
      all_goals first | done | rfl | (rw [if_pos (by omega)]; refine congrArg (fun x => Result.ok (Next.value (Value.pointer (some ⟨_, x, none⟩))) _) ?_; omega) | (rw [wrapP_i64]; omega) | go_num | (simp; omega) | (congr 1; first | (rw [wrapP_i64]; omega) | (simp; omega))
    · refine showA_run 24 (by intro _ _ _; kernel_rfl) (j := 7) (want := true) rfl rfl rfl (by intro _ _; kernel_rfl) rfl (fun c vals w hC hD => ⟨hD 7 rfl, ?_⟩)
      have h23 : vals 23 = (Value.bool true) := hD 23 rfl
      clear hD
      refine makes1 (x := .tmp 57) (X := (Value.bool true)) ((by kernel_rfl : _ = vals 23).trans h23) (fun ρ rc rf q57 => ?_)
      clear h23
      refine makes_value (v := Value.bool false) ?_ ⟨Adds.refl _, rfl⟩
      go_simp
      all_goals first | done | rfl | (rw [if_pos (by omega)]; refine congrArg (fun x => Result.ok (Next.value (Value.pointer (some ⟨_, x, none⟩))) _) ?_; omega) | (rw [wrapP_i64]; omega) | go_num | (simp; omega) | (congr 1; first | (rw [wrapP_i64]; omega) | (simp; omega))
    · refine showA_op 25 (by intro _ _ _; kernel_rfl) rfl rfl (fun c vals w hC hD => ?_)
      have h7 : vals 7 = .bool true := hD 7 rfl
      have h24 : vals 24 = .bool false := hD 24 rfl
      clear hD
      refine makes2 (x := .tmp 41) (X := Value.bool true) (y := .tmp 58) (Y := Value.bool false) ((by kernel_rfl : _ = vals 7).trans h7) ((by kernel_rfl : _ = vals 24).trans h24) (fun ρ rc rf q41 q58 => ?_)
      clear h7 h24
      refine makes_value (v := Value.bool false) ?_ ⟨Adds.refl _, rfl⟩
      go_simp
      all_goals first | done | rfl | (rw [if_pos (by omega)]; refine congrArg (fun x => Result.ok (Next.value (Value.pointer (some ⟨_, x, none⟩))) _) ?_; omega) | (rw [wrapP_i64]; omega) | go_num | (simp; omega) | (congr 1; first | (rw [wrapP_i64]; omega) | (simp; omega))
    intro vals w' hC hΦ hne
    have h25 : vals 25 = .bool false := hΦ 25 (by decide)
    clear hΦ hne
    simp only [List.getD_eq_getElem?_getD, List.getElem?_cons_zero, List.getElem?_cons_succ, Option.getD_some, List.drop_succ_cons, List.drop_zero]
    simp only [h25]
    clear h25
    try simp only [tuple_undef]
    replace hM := hM.adds hC
    clear hC
  case' inr.inr.inl =>
    try simp only [Act.put, List.setIfInBounds_toArray, List.set_cons_succ, List.set_cons_zero]
    refine wp_region_tail 26 (by decide) (fun c vals => ⟨#[(Value.slice ao1 k1 cap1 : Value), (Value.slice ao2 k2 cap2 : Value), c 2, c 3, c 4, c 5, c 6, c 7, c 8, (Value.pointer (some ⟨g9, 0, none⟩) : Value), (Value.pointer (some ⟨g10, 0, none⟩) : Value), c 11, c 12, c 13, c 14, c 15, c 16, c 17, c 18, c 19, c 20, c 21, c 22, c 23, c 24, c 25, c 26, c 27, c 28, c 29, c 30, c 31, c 32, c 33, vals 0, vals 1, vals 2, vals 3, vals 4, vals 5, vals 6, vals 7, vals 8, vals 9, vals 10, vals 11, vals 12, vals 13, vals 14, vals 15, vals 16, vals 17, vals 18, vals 19, vals 20, vals 21, vals 22, vals 23, vals 24, vals 25, c 60, c 61, c 62, c 63, c 64, c 65, c 66, c 67, c 68, c 69, c 70, c 71, c 72, c 73, c 74, c 75, c 76, c 77, c 78, c 79, c 80, c 81, c 82, c 83, c 84], []⟩) (fun t => [undef, undef, _, _, _, _, _, _, _, undef, undef, _, _, _, _, _, _, _, _, _, _, _, _, _, _, _, _, _, _, _, _, _, _, _, undef, undef, undef, undef, undef, undef, undef, undef, undef, undef, undef, undef, undef, undef, undef, undef, undef, undef, undef, undef, undef, undef, undef, undef, undef, undef, _, _, _, _, _, _, _, _, _, _, _, _, _, _, _, _, _, _, _, _, _, _, _, _, _].getD t undef) (fun i => [_, _, _, _, _, _, _, _, _, _, _, _, _, _, _, _, _, _, _, _, _, _, _, _, _, _].getD i undef) (by kernel_rfl)
      [[], [], [0, 1], [], [], [3, 4], [0, 1, 2, 3, 4, 5], [0, 1, 2, 3, 4, 5, 6], [0, 1, 2, 3, 4, 5, 6, 7], [0, 1, 2, 3, 4, 5, 6, 7], [0, 1, 2, 3, 4, 5, 6, 7, 8, 9], [0, 1, 2, 3, 4, 5, 6, 7, 8, 9, 10], [0, 1, 2, 3, 4, 5, 6, 7, 8, 9, 10, 11], [0, 1, 2, 3, 4, 5, 6, 7, 8, 9, 10, 11], [0, 1, 2, 3, 4, 5, 6, 7, 8, 9, 10, 11, 12, 13], [0, 1, 2, 3, 4, 5, 6, 7, 8, 9, 10, 11, 12, 13, 14], [0, 1, 2, 3, 4, 5, 6, 7, 8, 9, 10, 11, 12, 13, 14, 15], [0, 1, 2, 3, 4, 5, 6, 7, 8, 9, 10, 11, 12, 13, 14, 15, 16], [0, 1, 2, 3, 4, 5, 6, 7, 8, 9, 10, 11, 12, 13, 14, 15, 16, 17], [0, 1, 2, 3, 4, 5, 6, 7, 8, 9, 10, 11, 12, 13, 14, 15, 16, 17, 18], [0, 1, 2, 3, 4, 5, 6, 7, 8, 9, 10, 11, 12, 13, 14, 15, 16, 17, 18, 19], [0, 1, 2, 3, 4, 5, 6, 7, 8, 9, 10, 11, 12, 13, 14, 15, 16, 17, 18, 19, 20], [0, 1, 2, 3, 4, 5, 6, 7, 8, 9, 10, 11, 12, 13, 14, 15, 16, 17, 18, 19, 20, 21], [0, 1, 2, 3, 4, 5, 6, 7, 8, 9, 10, 11, 12, 13, 14, 15, 16, 17, 18, 19, 20, 21, 22], [0, 1, 2, 3, 4, 5, 6, 7, 8, 9, 10, 11, 12, 13, 14, 15, 16, 17, 18, 19, 20, 21, 22, 23], [0, 1, 2, 3, 4, 5, 6, 7, 8, 9, 10, 11, 12, 13, 14, 15, 16, 17, 18, 19, 20, 21, 22, 23, 24]] (by kernel_rfl) (by kernel_rfl) (fun _ => True) trivial
      [fun x _ => x = (Value.agg (R1.map B8).toArray : Value),
       fun x _ => x = (Value.agg (R2.map B8).toArray : Value),
       fun x _ => x = (Value.bool true : Value),
       fun x _ => x = (Value.slice ao1 k1 cap1 : Value),
       fun x _ => x = (Value.slice ao2 k2 cap2 : Value),
       fun x _ => x = (Value.bool false : Value),
       fun x _ => x = (Value.bool true : Value),
       fun x _ => x = (Value.bool true : Value),
       fun x _ => x = (Value.agg (R1.map B8).toArray : Value),
       fun x _ => x = (Value.agg (R2.map B8).toArray : Value),
       fun x _ => x = (Value.bool true : Value),
       fun x _ => x = (Value.bool true : Value),
       fun x _ => x = (Value.slice ao1 k1 cap1 : Value),
       fun x _ => x = (Value.slice ao2 k2 cap2 : Value),
       fun x _ => x = (Value.bool false : Value),
       fun x _ => x = (Value.bool false : Value),
       fun x _ => x = (Value.slice ao1 k1 cap1 : Value),
       fun x _ => x = (Value.bool true : Value),
       fun x _ => x = (Value.bool true : Value),
       fun x _ => x = (Value.bool true : Value),
       fun x _ => x = (undef : Value),
       fun x _ => x = (undef : Value),
       fun x _ => x = ((Value.bool true) : Value),
       fun x _ => x = ((Value.bool true) : Value),
       fun x _ => x = (Value.bool false : Value),
       fun x _ => x = (Value.bool false : Value)]
      ⟨fun _ _ _ h _ => h, fun _ _ _ h _ => h, fun _ _ _ h _ => h, fun _ _ _ h _ => h, fun _ _ _ h _ => h, fun _ _ _ h _ => h, fun _ _ _ h _ => h, fun _ _ _ h _ => h, fun _ _ _ h _ => h, fun _ _ _ h _ => h, fun _ _ _ h _ => h, fun _ _ _ h _ => h, fun _ _ _ h _ => h, fun _ _ _ h _ => h, fun _ _ _ h _ => h, fun _ _ _ h _ => h, fun _ _ _ h _ => h, fun _ _ _ h _ => h, fun _ _ _ h _ => h, fun _ _ _ h _ => h, fun _ _ _ h _ => h, fun _ _ _ h _ => h, fun _ _ _ h _ => h, fun _ _ _ h _ => h, fun _ _ _ h _ => h, fun _ _ _ h _ => h, trivial⟩ []
      ⟨?_, ?_, ?_, ?_, ?_, ?_, ?_, ?_, ?_, ?_, ?_, ?_, ?_, ?_, ?_, ?_, ?_, ?_, ?_, ?_, ?_, ?_, ?_, ?_, ?_, ?_, trivial⟩ ?_
    · refine showA_op 0 (by intro _ _ _; kernel_rfl) rfl rfl (fun c vals w hC hD => ?_)
      clear hD
      refine makes1 (x := .tmp 9) (X := Value.pointer (some ⟨g9, 0, none⟩)) (by kernel_rfl : _ = (Value.pointer (some ⟨g9, 0, none⟩) : Value)) (fun ρ rc rf q9 => ?_)
      exact makes_load ((hM.adds hC).loads_all (.tail _ (.head _)) (ag_of rfl) (hRl1.map _)) rfl q9 ⟨Adds.refl _, rfl⟩
    · refine showA_op 1 (by intro _ _ _; kernel_rfl) rfl rfl (fun c vals w hC hD => ?_)
      clear hD
      refine makes1 (x := .tmp 10) (X := Value.pointer (some ⟨g10, 0, none⟩)) (by kernel_rfl : _ = (Value.pointer (some ⟨g10, 0, none⟩) : Value)) (fun ρ rc rf q10 => ?_)
      exact makes_load ((hM.adds hC).loads_all (.head _) (ag_of rfl) (hRl2.map _)) rfl q10 ⟨Adds.refl _, rfl⟩
    · refine showA_op 2 (by intro _ _ _; kernel_rfl) rfl rfl (fun c vals w hC hD => ?_)
      have h0 : vals 0 = .agg (R1.map B8).toArray := hD 0 rfl
      have h1 : vals 1 = .agg (R2.map B8).toArray := hD 1 rfl
      clear hD
      refine makes2 (x := .tmp 34) (X := Value.agg (R1.map B8).toArray) (y := .tmp 35) (Y := Value.agg (R2.map B8).toArray) ((by kernel_rfl : _ = vals 0).trans h0) ((by kernel_rfl : _ = vals 1).trans h1) (fun ρ rc rf q34 q35 => ?_)
      clear h0 h1
      exact makes_eql heq rfl q34 q35 ⟨Adds.refl _, rfl⟩
    · refine showA_op 3 (by intro _ _ _; kernel_rfl) rfl rfl (fun c vals w hC hD => ?_)
      clear hD
      refine makes1 (x := .tmp 0) (X := Value.slice ao1 k1 cap1) (by kernel_rfl : _ = (Value.slice ao1 k1 cap1 : Value)) (fun ρ rc rf q0 => ?_)
      exact makes_move (.inl rfl) q0 ⟨Adds.refl _, rfl⟩
    · refine showA_op 4 (by intro _ _ _; kernel_rfl) rfl rfl (fun c vals w hC hD => ?_)
      clear hD
      refine makes1 (x := .tmp 1) (X := Value.slice ao2 k2 cap2) (by kernel_rfl : _ = (Value.slice ao2 k2 cap2 : Value)) (fun ρ rc rf q1 => ?_)
      exact makes_move (.inl rfl) q1 ⟨Adds.refl _, rfl⟩
    · refine showA_op 5 (by intro _ _ _; kernel_rfl) rfl rfl (fun c vals w hC hD => ?_)
      have h3 : vals 3 = .slice ao1 k1 cap1 := hD 3 rfl
      have h4 : vals 4 = .slice ao2 k2 cap2 := hD 4 rfl
      clear hD
      refine makes2 (x := .tmp 37) (X := Value.slice ao1 k1 cap1) (y := .tmp 38) (Y := Value.slice ao2 k2 cap2) ((by kernel_rfl : _ = vals 3).trans h3) ((by kernel_rfl : _ = vals 4).trans h4) (fun ρ rc rf q37 q38 => ?_)
      clear h3 h4
      refine makes_call (hsame _ ((hM.adds hC).done)) ?_ (by rintro e w' ⟨rfl, hb⟩; exact ⟨_, rfl, hb, rfl⟩)
      go_simp
    · refine showA_op 6 (by intro _ _ _; kernel_rfl) rfl rfl (fun c vals w hC hD => ?_)
      have h2 : vals 2 = .bool true := hD 2 rfl
      have h5 : vals 5 = .bool false := hD 5 rfl
      clear hD
      refine makes2 (x := .tmp 36) (X := Value.bool true) (y := .tmp 39) (Y := Value.bool false) ((by kernel_rfl : _ = vals 2).trans h2) ((by kernel_rfl : _ = vals 5).trans h5) (fun ρ rc rf q36 q39 => ?_)
      clear h2 h5
      refine makes_value (v := Value.bool true) ?_ ⟨Adds.refl _, rfl⟩
      go_simp
      all_goals first | done | rfl | (rw [if_pos (by omega)]; refine congrArg (fun x => Result.ok (Next.value (Value.pointer (some ⟨_, x, none⟩))) _) ?_; omega) | (rw [wrapP_i64]; omega) | go_num | (simp; omega) | (congr 1; first | (rw [wrapP_i64]; omega) | (simp; omega))
    · refine showA_op 7 (by intro _ _ _; kernel_rfl) rfl rfl (fun c vals w hC hD => ?_)
      have h6 : vals 6 = .bool true := hD 6 rfl
      clear hD
      refine makes1 (x := .tmp 40) (X := Value.bool true) ((by kernel_rfl : _ = vals 6).trans h6) (fun ρ rc rf q40 => ?_)
      clear h6
      exact makes_move (.inl rfl) q40 ⟨Adds.refl _, rfl⟩
    · refine showA_run 8 (by intro _ _ _; kernel_rfl) (j := 7) (want := true) rfl rfl rfl (by intro _ _; kernel_rfl) rfl (fun c vals w hC hD => ⟨hD 7 rfl, ?_⟩)
      clear hD
      refine makes1 (x := .tmp 9) (X := Value.pointer (some ⟨g9, 0, none⟩)) (by kernel_rfl : _ = (Value.pointer (some ⟨g9, 0, none⟩) : Value)) (fun ρ rc rf q9 => ?_)
      exact makes_load ((hM.adds hC).loads_all (.tail _ (.head _)) (ag_of rfl) (hRl1.map _)) rfl q9 ⟨Adds.refl _, rfl⟩
    · refine showA_run 9 (by intro _ _ _; kernel_rfl) (j := 7) (want := true) rfl rfl rfl (by intro _ _; kernel_rfl) rfl (fun c vals w hC hD => ⟨hD 7 rfl, ?_⟩)
      clear hD
      refine makes1 (x := .tmp 10) (X := Value.pointer (some ⟨g10, 0, none⟩)) (by kernel_rfl : _ = (Value.pointer (some ⟨g10, 0, none⟩) : Value)) (fun ρ rc rf q10 => ?_)
      exact makes_load ((hM.adds hC).loads_all (.head _) (ag_of rfl) (hRl2.map _)) rfl q10 ⟨Adds.refl _, rfl⟩
    · refine showA_run 10 (by intro _ _ _; kernel_rfl) (j := 7) (want := true) rfl rfl rfl (by intro _ _; kernel_rfl) rfl (fun c vals w hC hD => ⟨hD 7 rfl, ?_⟩)
      have h8 : vals 8 = .agg (R1.map B8).toArray := hD 8 rfl
      have h9 : vals 9 = .agg (R2.map B8).toArray := hD 9 rfl
      clear hD
      refine makes2 (x := .tmp 42) (X := Value.agg (R1.map B8).toArray) (y := .tmp 43) (Y := Value.agg (R2.map B8).toArray) ((by kernel_rfl : _ = vals 8).trans h8) ((by kernel_rfl : _ = vals 9).trans h9) (fun ρ rc rf q42 q43 => ?_)
      clear h8 h9
      exact makes_eql heq rfl q42 q43 ⟨Adds.refl _, rfl⟩
    · refine showA_run 11 (by intro _ _ _; kernel_rfl) (j := 7) (want := true) rfl rfl rfl (by intro _ _; kernel_rfl) rfl (fun c vals w hC hD => ⟨hD 7 rfl, ?_⟩)
      have h10 : vals 10 = .bool true := hD 10 rfl
      clear hD
      refine makes1 (x := .tmp 44) (X := Value.bool true) ((by kernel_rfl : _ = vals 10).trans h10) (fun ρ rc rf q44 => ?_)
      clear h10
      exact makes_move (.inl rfl) q44 ⟨Adds.refl _, rfl⟩
    · refine showA_run 12 (by intro _ _ _; kernel_rfl) (j := 11) (want := true) rfl rfl rfl (by intro _ _; kernel_rfl) rfl (fun c vals w hC hD => ⟨hD 11 rfl, ?_⟩)
      clear hD
      refine makes1 (x := .tmp 0) (X := Value.slice ao1 k1 cap1) (by kernel_rfl : _ = (Value.slice ao1 k1 cap1 : Value)) (fun ρ rc rf q0 => ?_)
      exact makes_move (.inl rfl) q0 ⟨Adds.refl _, rfl⟩
    · refine showA_run 13 (by intro _ _ _; kernel_rfl) (j := 11) (want := true) rfl rfl rfl (by intro _ _; kernel_rfl) rfl (fun c vals w hC hD => ⟨hD 11 rfl, ?_⟩)
      clear hD
      refine makes1 (x := .tmp 1) (X := Value.slice ao2 k2 cap2) (by kernel_rfl : _ = (Value.slice ao2 k2 cap2 : Value)) (fun ρ rc rf q1 => ?_)
      exact makes_move (.inl rfl) q1 ⟨Adds.refl _, rfl⟩
    · refine showA_run 14 (by intro _ _ _; kernel_rfl) (j := 11) (want := true) rfl rfl rfl (by intro _ _; kernel_rfl) rfl (fun c vals w hC hD => ⟨hD 11 rfl, ?_⟩)
      have h12 : vals 12 = .slice ao1 k1 cap1 := hD 12 rfl
      have h13 : vals 13 = .slice ao2 k2 cap2 := hD 13 rfl
      clear hD
      refine makes2 (x := .tmp 46) (X := Value.slice ao1 k1 cap1) (y := .tmp 47) (Y := Value.slice ao2 k2 cap2) ((by kernel_rfl : _ = vals 12).trans h12) ((by kernel_rfl : _ = vals 13).trans h13) (fun ρ rc rf q46 q47 => ?_)
      clear h12 h13
      refine makes_call (hclu _ ((hM.adds hC).done)) ?_ (by rintro e w' ⟨rfl, hb⟩; exact ⟨_, rfl, hb, rfl⟩)
      go_simp
    · refine showA_run 15 (by intro _ _ _; kernel_rfl) (j := 11) (want := true) rfl rfl rfl (by intro _ _; kernel_rfl) rfl (fun c vals w hC hD => ⟨hD 11 rfl, ?_⟩)
      have h14 : vals 14 = .bool false := hD 14 rfl
      clear hD
      refine makes1 (x := .tmp 48) (X := Value.bool false) ((by kernel_rfl : _ = vals 14).trans h14) (fun ρ rc rf q48 => ?_)
      clear h14
      exact makes_move (.inl rfl) q48 ⟨Adds.refl _, rfl⟩
    · refine showA_run 16 (by intro _ _ _; kernel_rfl) (j := 15) (want := false) rfl rfl rfl (by intro _ _; kernel_rfl) rfl (fun c vals w hC hD => ⟨hD 15 rfl, ?_⟩)
      clear hD
      refine makes1 (x := .tmp 0) (X := Value.slice ao1 k1 cap1) (by kernel_rfl : _ = (Value.slice ao1 k1 cap1 : Value)) (fun ρ rc rf q0 => ?_)
      exact makes_move (.inl rfl) q0 ⟨Adds.refl _, rfl⟩
    · refine showA_run 17 (by intro _ _ _; kernel_rfl) (j := 15) (want := false) rfl rfl rfl (by intro _ _; kernel_rfl) rfl (fun c vals w hC hD => ⟨hD 15 rfl, ?_⟩)
      have h16 : vals 16 = .slice ao1 k1 cap1 := hD 16 rfl
      clear hD
      refine makes1 (x := .tmp 50) (X := Value.slice ao1 k1 cap1) ((by kernel_rfl : _ = vals 16).trans h16) (fun ρ rc rf q50 => ?_)
      clear h16
      refine makes_call (hzer1 _ ((hM.adds hC).done)) ?_ (by rintro e w' ⟨rfl, hb⟩; exact ⟨_, rfl, hb, rfl⟩)
      go_simp
    · refine showA_run 18 (by intro _ _ _; kernel_rfl) (j := 11) (want := true) rfl rfl rfl (by intro _ _; kernel_rfl) rfl (fun c vals w hC hD => ⟨hD 11 rfl, ?_⟩)
      have h15 : vals 15 = .bool false := hD 15 rfl
      have h17 : vals 17 = .bool true := hD 17 rfl
      clear hD
      refine makes2 (x := .tmp 49) (X := Value.bool false) (y := .tmp 51) (Y := Value.bool true) ((by kernel_rfl : _ = vals 15).trans h15) ((by kernel_rfl : _ = vals 17).trans h17) (fun ρ rc rf q49 q51 => ?_)
      clear h15 h17
      refine makes_value (v := Value.bool true) ?_ ⟨Adds.refl _, rfl⟩
      go_simp
      all_goals first | done | rfl | (rw [if_pos (by omega)]; refine congrArg (fun x => Result.ok (Next.value (Value.pointer (some ⟨_, x, none⟩))) _) ?_; omega) | (rw [wrapP_i64]; omega) | go_num | (simp; omega) | (congr 1; first | (rw [wrapP_i64]; omega) | (simp; omega))
    · refine showA_run 19 (by intro _ _ _; kernel_rfl) (j := 11) (want := true) rfl rfl rfl (by intro _ _; kernel_rfl) rfl (fun c vals w hC hD => ⟨hD 11 rfl, ?_⟩)
      have h18 : vals 18 = .bool true := hD 18 rfl
      clear hD
      refine makes1 (x := .tmp 52) (X := Value.bool true) ((by kernel_rfl : _ = vals 18).trans h18) (fun ρ rc rf q52 => ?_)
      clear h18
      exact makes_move (.inl rfl) q52 ⟨Adds.refl _, rfl⟩
    · refine showA_not 20 (by intro _ _ _; kernel_rfl) (j := 19) (want := false) rfl rfl rfl (by intro _ _; kernel_rfl) rfl (fun vals w hC hD => ⟨hD 19 rfl, rfl⟩)
    · refine showA_not 21 (by intro _ _ _; kernel_rfl) (j := 19) (want := false) rfl rfl rfl (by intro _ _; kernel_rfl) rfl (fun vals w hC hD => ⟨hD 19 rfl, rfl⟩)
    · refine showA_run 22 (by intro _ _ _; kernel_rfl) (j := 11) (want := true) rfl rfl rfl (by intro _ _; kernel_rfl) rfl (fun c vals w hC hD => ⟨hD 11 rfl, ?_⟩)
      have h19 : vals 19 = .bool true := hD 19 rfl
      have h21 : vals 21 = undef := hD 21 rfl
      clear hD
      refine makes2 (x := .tmp 53) (X := Value.bool true) (y := .tmp 55) (Y := undef) ((by kernel_rfl : _ = vals 19).trans h19) ((by kernel_rfl : _ = vals 21).trans h21) (fun ρ rc rf q53 q55 => ?_)
      clear h19 h21
      refine makes_value (v := (Value.bool true)) ?_ ⟨Adds.refl _, rfl⟩
      go_simp
      all_goals first | done | rfl | (rw [if_pos (by omega)]; refine congrArg (fun x => Result.ok (Next.value (Value.pointer (some ⟨_, x, none⟩))) _) ?_; omega) | (rw [wrapP_i64]; omega) | go_num | (simp; omega) | (congr 1; first | (rw [wrapP_i64]; omega) | (simp; omega))
    · refine showA_run 23 (by intro _ _ _; kernel_rfl) (j := 7) (want := true) rfl rfl rfl (by intro _ _; kernel_rfl) rfl (fun c vals w hC hD => ⟨hD 7 rfl, ?_⟩)
      have h11 : vals 11 = .bool true := hD 11 rfl
      have h22 : vals 22 = (Value.bool true) := hD 22 rfl
      clear hD
      refine makes2 (x := .tmp 45) (X := Value.bool true) (y := .tmp 56) (Y := (Value.bool true)) ((by kernel_rfl : _ = vals 11).trans h11) ((by kernel_rfl : _ = vals 22).trans h22) (fun ρ rc rf q45 q56 => ?_)
      clear h11 h22
      refine makes_value (v := (Value.bool true)) ?_ ⟨Adds.refl _, rfl⟩
      go_simp
      all_goals first | done | rfl | (rw [if_pos (by omega)]; refine congrArg (fun x => Result.ok (Next.value (Value.pointer (some ⟨_, x, none⟩))) _) ?_; omega) | (rw [wrapP_i64]; omega) | go_num | (simp; omega) | (congr 1; first | (rw [wrapP_i64]; omega) | (simp; omega))
    · refine showA_run 24 (by intro _ _ _; kernel_rfl) (j := 7) (want := true) rfl rfl rfl (by intro _ _; kernel_rfl) rfl (fun c vals w hC hD => ⟨hD 7 rfl, ?_⟩)
      have h23 : vals 23 = (Value.bool true) := hD 23 rfl
      clear hD
      refine makes1 (x := .tmp 57) (X := (Value.bool true)) ((by kernel_rfl : _ = vals 23).trans h23) (fun ρ rc rf q57 => ?_)
      clear h23
      refine makes_value (v := Value.bool false) ?_ ⟨Adds.refl _, rfl⟩
      go_simp
      all_goals first | done | rfl | (rw [if_pos (by omega)]; refine congrArg (fun x => Result.ok (Next.value (Value.pointer (some ⟨_, x, none⟩))) _) ?_; omega) | (rw [wrapP_i64]; omega) | go_num | (simp; omega) | (congr 1; first | (rw [wrapP_i64]; omega) | (simp; omega))
    · refine showA_op 25 (by intro _ _ _; kernel_rfl) rfl rfl (fun c vals w hC hD => ?_)
      have h7 : vals 7 = .bool true := hD 7 rfl
      have h24 : vals 24 = .bool false := hD 24 rfl
      clear hD
      refine makes2 (x := .tmp 41) (X := Value.bool true) (y := .tmp 58) (Y := Value.bool false) ((by kernel_rfl : _ = vals 7).trans h7) ((by kernel_rfl : _ = vals 24).trans h24) (fun ρ rc rf q41 q58 => ?_)
      clear h7 h24
      refine makes_value (v := Value.bool false) ?_ ⟨Adds.refl _, rfl⟩
      go_simp
      all_goals first | done | rfl | (rw [if_pos (by omega)]; refine congrArg (fun x => Result.ok (Next.value (Value.pointer (some ⟨_, x, none⟩))) _) ?_; omega) | (rw [wrapP_i64]; omega) | go_num | (simp; omega) | (congr 1; first | (rw [wrapP_i64]; omega) | (simp; omega))
    intro vals w' hC hΦ hne
    have h25 : vals 25 = .bool false := hΦ 25 (by decide)
    clear hΦ hne
    simp only [List.getD_eq_getElem?_getD, List.getElem?_cons_zero, List.getElem?_cons_succ, Option.getD_some, List.drop_succ_cons, List.drop_zero]
    simp only [h25]
    clear h25
    try simp only [tuple_undef]
    replace hM := hM.adds hC
    clear hC
  case' inr.inr.inr =>
    try simp only [Act.put, List.setIfInBounds_toArray, List.set_cons_succ, List.set_cons_zero]
    refine wp_region_tail 26 (by decide) (fun c vals => ⟨#[(Value.slice ao1 k1 cap1 : Value), (Value.slice ao2 k2 cap2 : Value), c 2, c 3, c 4, c 5, c 6, c 7, c 8, (Value.pointer (some ⟨g9, 0, none⟩) : Value), (Value.pointer (some ⟨g10, 0, none⟩) : Value), c 11, c 12, c 13, c 14, c 15, c 16, c 17, c 18, c 19, c 20, c 21, c 22, c 23, c 24, c 25, c 26, c 27, c 28, c 29, c 30, c 31, c 32, c 33, vals 0, vals 1, vals 2, vals 3, vals 4, vals 5, vals 6, vals 7, vals 8, vals 9, vals 10, vals 11, vals 12, vals 13, vals 14, vals 15, vals 16, vals 17, vals 18, vals 19, vals 20, vals 21, vals 22, vals 23, vals 24, vals 25, c 60, c 61, c 62, c 63, c 64, c 65, c 66, c 67, c 68, c 69, c 70, c 71, c 72, c 73, c 74, c 75, c 76, c 77, c 78, c 79, c 80, c 81, c 82, c 83, c 84], []⟩) (fun t => [undef, undef, _, _, _, _, _, _, _, undef, undef, _, _, _, _, _, _, _, _, _, _, _, _, _, _, _, _, _, _, _, _, _, _, _, undef, undef, undef, undef, undef, undef, undef, undef, undef, undef, undef, undef, undef, undef, undef, undef, undef, undef, undef, undef, undef, undef, undef, undef, undef, undef, _, _, _, _, _, _, _, _, _, _, _, _, _, _, _, _, _, _, _, _, _, _, _, _, _].getD t undef) (fun i => [_, _, _, _, _, _, _, _, _, _, _, _, _, _, _, _, _, _, _, _, _, _, _, _, _, _].getD i undef) (by kernel_rfl)
      [[], [], [0, 1], [], [], [3, 4], [0, 1, 2, 3, 4, 5], [0, 1, 2, 3, 4, 5, 6], [0, 1, 2, 3, 4, 5, 6, 7], [0, 1, 2, 3, 4, 5, 6, 7], [0, 1, 2, 3, 4, 5, 6, 7, 8, 9], [0, 1, 2, 3, 4, 5, 6, 7, 8, 9, 10], [0, 1, 2, 3, 4, 5, 6, 7, 8, 9, 10, 11], [0, 1, 2, 3, 4, 5, 6, 7, 8, 9, 10, 11], [0, 1, 2, 3, 4, 5, 6, 7, 8, 9, 10, 11, 12, 13], [0, 1, 2, 3, 4, 5, 6, 7, 8, 9, 10, 11, 12, 13, 14], [0, 1, 2, 3, 4, 5, 6, 7, 8, 9, 10, 11, 12, 13, 14, 15], [0, 1, 2, 3, 4, 5, 6, 7, 8, 9, 10, 11, 12, 13, 14, 15, 16], [0, 1, 2, 3, 4, 5, 6, 7, 8, 9, 10, 11, 12, 13, 14, 15, 16, 17], [0, 1, 2, 3, 4, 5, 6, 7, 8, 9, 10, 11, 12, 13, 14, 15, 16, 17, 18], [0, 1, 2, 3, 4, 5, 6, 7, 8, 9, 10, 11, 12, 13, 14, 15, 16, 17, 18, 19], [0, 1, 2, 3, 4, 5, 6, 7, 8, 9, 10, 11, 12, 13, 14, 15, 16, 17, 18, 19, 20], [0, 1, 2, 3, 4, 5, 6, 7, 8, 9, 10, 11, 12, 13, 14, 15, 16, 17, 18, 19, 20, 21], [0, 1, 2, 3, 4, 5, 6, 7, 8, 9, 10, 11, 12, 13, 14, 15, 16, 17, 18, 19, 20, 21, 22], [0, 1, 2, 3, 4, 5, 6, 7, 8, 9, 10, 11, 12, 13, 14, 15, 16, 17, 18, 19, 20, 21, 22, 23], [0, 1, 2, 3, 4, 5, 6, 7, 8, 9, 10, 11, 12, 13, 14, 15, 16, 17, 18, 19, 20, 21, 22, 23, 24]] (by kernel_rfl) (by kernel_rfl) (fun _ => True) trivial
      [fun x _ => x = (Value.agg (R1.map B8).toArray : Value),
       fun x _ => x = (Value.agg (R2.map B8).toArray : Value),
       fun x _ => x = (Value.bool true : Value),
       fun x _ => x = (Value.slice ao1 k1 cap1 : Value),
       fun x _ => x = (Value.slice ao2 k2 cap2 : Value),
       fun x _ => x = (Value.bool false : Value),
       fun x _ => x = (Value.bool true : Value),
       fun x _ => x = (Value.bool true : Value),
       fun x _ => x = (Value.agg (R1.map B8).toArray : Value),
       fun x _ => x = (Value.agg (R2.map B8).toArray : Value),
       fun x _ => x = (Value.bool true : Value),
       fun x _ => x = (Value.bool true : Value),
       fun x _ => x = (Value.slice ao1 k1 cap1 : Value),
       fun x _ => x = (Value.slice ao2 k2 cap2 : Value),
       fun x _ => x = (Value.bool false : Value),
       fun x _ => x = (Value.bool false : Value),
       fun x _ => x = (Value.slice ao1 k1 cap1 : Value),
       fun x _ => x = (Value.bool false : Value),
       fun x _ => x = (Value.bool false : Value),
       fun x _ => x = (Value.bool false : Value),
       fun x _ => x = (Value.slice ao2 k2 cap2 : Value),
       fun x _ => x = (Value.bool true : Value),
       fun x _ => x = (Value.bool true : Value),
       fun x _ => x = (Value.bool true : Value),
       fun x _ => x = (Value.bool false : Value),
       fun x _ => x = (Value.bool false : Value)]
      ⟨fun _ _ _ h _ => h, fun _ _ _ h _ => h, fun _ _ _ h _ => h, fun _ _ _ h _ => h, fun _ _ _ h _ => h, fun _ _ _ h _ => h, fun _ _ _ h _ => h, fun _ _ _ h _ => h, fun _ _ _ h _ => h, fun _ _ _ h _ => h, fun _ _ _ h _ => h, fun _ _ _ h _ => h, fun _ _ _ h _ => h, fun _ _ _ h _ => h, fun _ _ _ h _ => h, fun _ _ _ h _ => h, fun _ _ _ h _ => h, fun _ _ _ h _ => h, fun _ _ _ h _ => h, fun _ _ _ h _ => h, fun _ _ _ h _ => h, fun _ _ _ h _ => h, fun _ _ _ h _ => h, fun _ _ _ h _ => h, fun _ _ _ h _ => h, fun _ _ _ h _ => h, trivial⟩ []
      ⟨?_, ?_, ?_, ?_, ?_, ?_, ?_, ?_, ?_, ?_, ?_, ?_, ?_, ?_, ?_, ?_, ?_, ?_, ?_, ?_, ?_, ?_, ?_, ?_, ?_, ?_, trivial⟩ ?_
    · refine showA_op 0 (by intro _ _ _; kernel_rfl) rfl rfl (fun c vals w hC hD => ?_)
      clear hD
      refine makes1 (x := .tmp 9) (X := Value.pointer (some ⟨g9, 0, none⟩)) (by kernel_rfl : _ = (Value.pointer (some ⟨g9, 0, none⟩) : Value)) (fun ρ rc rf q9 => ?_)
      exact makes_load ((hM.adds hC).loads_all (.tail _ (.head _)) (ag_of rfl) (hRl1.map _)) rfl q9 ⟨Adds.refl _, rfl⟩
    · refine showA_op 1 (by intro _ _ _; kernel_rfl) rfl rfl (fun c vals w hC hD => ?_)
      clear hD
      refine makes1 (x := .tmp 10) (X := Value.pointer (some ⟨g10, 0, none⟩)) (by kernel_rfl : _ = (Value.pointer (some ⟨g10, 0, none⟩) : Value)) (fun ρ rc rf q10 => ?_)
      exact makes_load ((hM.adds hC).loads_all (.head _) (ag_of rfl) (hRl2.map _)) rfl q10 ⟨Adds.refl _, rfl⟩
    · refine showA_op 2 (by intro _ _ _; kernel_rfl) rfl rfl (fun c vals w hC hD => ?_)
      have h0 : vals 0 = .agg (R1.map B8).toArray := hD 0 rfl
      have h1 : vals 1 = .agg (R2.map B8).toArray := hD 1 rfl
      clear hD
      refine makes2 (x := .tmp 34) (X := Value.agg (R1.map B8).toArray) (y := .tmp 35) (Y := Value.agg (R2.map B8).toArray) ((by kernel_rfl : _ = vals 0).trans h0) ((by kernel_rfl : _ = vals 1).trans h1) (fun ρ rc rf q34 q35 => ?_)
      clear h0 h1
      exact makes_eql heq rfl q34 q35 ⟨Adds.refl _, rfl⟩
    · refine showA_op 3 (by intro _ _ _; kernel_rfl) rfl rfl (fun c vals w hC hD => ?_)
      clear hD
      refine makes1 (x := .tmp 0) (X := Value.slice ao1 k1 cap1) (by kernel_rfl : _ = (Value.slice ao1 k1 cap1 : Value)) (fun ρ rc rf q0 => ?_)
      exact makes_move (.inl rfl) q0 ⟨Adds.refl _, rfl⟩
    · refine showA_op 4 (by intro _ _ _; kernel_rfl) rfl rfl (fun c vals w hC hD => ?_)
      clear hD
      refine makes1 (x := .tmp 1) (X := Value.slice ao2 k2 cap2) (by kernel_rfl : _ = (Value.slice ao2 k2 cap2 : Value)) (fun ρ rc rf q1 => ?_)
      exact makes_move (.inl rfl) q1 ⟨Adds.refl _, rfl⟩
    · refine showA_op 5 (by intro _ _ _; kernel_rfl) rfl rfl (fun c vals w hC hD => ?_)
      have h3 : vals 3 = .slice ao1 k1 cap1 := hD 3 rfl
      have h4 : vals 4 = .slice ao2 k2 cap2 := hD 4 rfl
      clear hD
      refine makes2 (x := .tmp 37) (X := Value.slice ao1 k1 cap1) (y := .tmp 38) (Y := Value.slice ao2 k2 cap2) ((by kernel_rfl : _ = vals 3).trans h3) ((by kernel_rfl : _ = vals 4).trans h4) (fun ρ rc rf q37 q38 => ?_)
      clear h3 h4
      refine makes_call (hsame _ ((hM.adds hC).done)) ?_ (by rintro e w' ⟨rfl, hb⟩; exact ⟨_, rfl, hb, rfl⟩)
      go_simp
    · refine showA_op 6 (by intro _ _ _; kernel_rfl) rfl rfl (fun c vals w hC hD => ?_)
      have h2 : vals 2 = .bool true := hD 2 rfl
      have h5 : vals 5 = .bool false := hD 5 rfl
      clear hD
      refine makes2 (x := .tmp 36) (X := Value.bool true) (y := .tmp 39) (Y := Value.bool false) ((by kernel_rfl : _ = vals 2).trans h2) ((by kernel_rfl : _ = vals 5).trans h5) (fun ρ rc rf q36 q39 => ?_)
      clear h2 h5
      refine makes_value (v := Value.bool true) ?_ ⟨Adds.refl _, rfl⟩
      go_simp
      all_goals first | done | rfl | (rw [if_pos (by omega)]; refine congrArg (fun x => Result.ok (Next.value (Value.pointer (some ⟨_, x, none⟩))) _) ?_; omega) | (rw [wrapP_i64]; omega) | go_num | (simp; omega) | (congr 1; first | (rw [wrapP_i64]; omega) | (simp; omega))
    · refine showA_op 7 (by intro _ _ _; kernel_rfl) rfl rfl (fun c vals w hC hD => ?_)
      have h6 : vals 6 = .bool true := hD 6 rfl
      clear hD
      refine makes1 (x := .tmp 40) (X := Value.bool true) ((by kernel_rfl : _ = vals 6).trans h6) (fun ρ rc rf q40 => ?_)
      clear h6
      exact makes_move (.inl rfl) q40 ⟨Adds.refl _, rfl⟩
    · refine showA_run 8 (by intro _ _ _; kernel_rfl) (j := 7) (want := true) rfl rfl rfl (by intro _ _; kernel_rfl) rfl (fun c vals w hC hD => ⟨hD 7 rfl, ?_⟩)
      clear hD
      refine makes1 (x := .tmp 9) (X := Value.pointer (some ⟨g9, 0, none⟩)) (by kernel_rfl : _ = (Value.pointer (some ⟨g9, 0, none⟩) : Value)) (fun ρ rc rf q9 => ?_)
      exact makes_load ((hM.adds hC).loads_all (.tail _ (.head _)) (ag_of rfl) (hRl1.map _)) rfl q9 ⟨Adds.refl _, rfl⟩
    · refine showA_run 9 (by intro _ _ _; kernel_rfl) (j := 7) (want := true) rfl rfl rfl (by intro _ _; kernel_rfl) rfl (fun c vals w hC hD => ⟨hD 7 rfl, ?_⟩)
      clear hD
      refine makes1 (x := .tmp 10) (X := Value.pointer (some ⟨g10, 0, none⟩)) (by kernel_rfl : _ = (Value.pointer (some ⟨g10, 0, none⟩) : Value)) (fun ρ rc rf q10 => ?_)
      exact makes_load ((hM.adds hC).loads_all (.head _) (ag_of rfl) (hRl2.map _)) rfl q10 ⟨Adds.refl _, rfl⟩
    · refine showA_run 10 (by intro _ _ _; kernel_rfl) (j := 7) (want := true) rfl rfl rfl (by intro _ _; kernel_rfl) rfl (fun c vals w hC hD => ⟨hD 7 rfl, ?_⟩)
      have h8 : vals 8 = .agg (R1.map B8).toArray := hD 8 rfl
      have h9 : vals 9 = .agg (R2.map B8).toArray := hD 9 rfl
      clear hD
      refine makes2 (x := .tmp 42) (X := Value.agg (R1.map B8).toArray) (y := .tmp 43) (Y := Value.agg (R2.map B8).toArray) ((by kernel_rfl : _ = vals 8).trans h8) ((by kernel_rfl : _ = vals 9).trans h9) (fun ρ rc rf q42 q43 => ?_)
      clear h8 h9
      exact makes_eql heq rfl q42 q43 ⟨Adds.refl _, rfl⟩
    · refine showA_run 11 (by intro _ _ _; kernel_rfl) (j := 7) (want := true) rfl rfl rfl (by intro _ _; kernel_rfl) rfl (fun c vals w hC hD => ⟨hD 7 rfl, ?_⟩)
      have h10 : vals 10 = .bool true := hD 10 rfl
      clear hD
      refine makes1 (x := .tmp 44) (X := Value.bool true) ((by kernel_rfl : _ = vals 10).trans h10) (fun ρ rc rf q44 => ?_)
      clear h10
      exact makes_move (.inl rfl) q44 ⟨Adds.refl _, rfl⟩
    · refine showA_run 12 (by intro _ _ _; kernel_rfl) (j := 11) (want := true) rfl rfl rfl (by intro _ _; kernel_rfl) rfl (fun c vals w hC hD => ⟨hD 11 rfl, ?_⟩)
      clear hD
      refine makes1 (x := .tmp 0) (X := Value.slice ao1 k1 cap1) (by kernel_rfl : _ = (Value.slice ao1 k1 cap1 : Value)) (fun ρ rc rf q0 => ?_)
      exact makes_move (.inl rfl) q0 ⟨Adds.refl _, rfl⟩
    · refine showA_run 13 (by intro _ _ _; kernel_rfl) (j := 11) (want := true) rfl rfl rfl (by intro _ _; kernel_rfl) rfl (fun c vals w hC hD => ⟨hD 11 rfl, ?_⟩)
      clear hD
      refine makes1 (x := .tmp 1) (X := Value.slice ao2 k2 cap2) (by kernel_rfl : _ = (Value.slice ao2 k2 cap2 : Value)) (fun ρ rc rf q1 => ?_)
      exact makes_move (.inl rfl) q1 ⟨Adds.refl _, rfl⟩
    · refine showA_run 14 (by intro _ _ _; kernel_rfl) (j := 11) (want := true) rfl rfl rfl (by intro _ _; kernel_rfl) rfl (fun c vals w hC hD => ⟨hD 11 rfl, ?_⟩)
      have h12 : vals 12 = .slice ao1 k1 cap1 := hD 12 rfl
      have h13 : vals 13 = .slice ao2 k2 cap2 := hD 13 rfl
      clear hD
      refine makes2 (x := .tmp 46) (X := Value.slice ao1 k1 cap1) (y := .tmp 47) (Y := Value.slice ao2 k2 cap2) ((by kernel_rfl : _ = vals 12).trans h12) ((by kernel_rfl : _ = vals 13).trans h13) (fun ρ rc rf q46 q47 => ?_)
      clear h12 h13
      refine makes_call (hclu _ ((hM.adds hC).done)) ?_ (by rintro e w' ⟨rfl, hb⟩; exact ⟨_, rfl, hb, rfl⟩)
      go_simp
    · refine showA_run 15 (by intro _ _ _; kernel_rfl) (j := 11) (want := true) rfl rfl rfl (by intro _ _; kernel_rfl) rfl (fun c vals w hC hD => ⟨hD 11 rfl, ?_⟩)
      have h14 : vals 14 = .bool false := hD 14 rfl
      clear hD
      refine makes1 (x := .tmp 48) (X := Value.bool false) ((by kernel_rfl : _ = vals 14).trans h14) (fun ρ rc rf q48 => ?_)
      clear h14
      exact makes_move (.inl rfl) q48 ⟨Adds.refl _, rfl⟩
    · refine showA_run 16 (by intro _ _ _; kernel_rfl) (j := 15) (want := false) rfl rfl rfl (by intro _ _; kernel_rfl) rfl (fun c vals w hC hD => ⟨hD 15 rfl, ?_⟩)
      clear hD
      refine makes1 (x := .tmp 0) (X := Value.slice ao1 k1 cap1) (by kernel_rfl : _ = (Value.slice ao1 k1 cap1 : Value)) (fun ρ rc rf q0 => ?_)
      exact makes_move (.inl rfl) q0 ⟨Adds.refl _, rfl⟩
    · refine showA_run 17 (by intro _ _ _; kernel_rfl) (j := 15) (want := false) rfl rfl rfl (by intro _ _; kernel_rfl) rfl (fun c vals w hC hD => ⟨hD 15 rfl, ?_⟩)
      have h16 : vals 16 = .slice ao1 k1 cap1 := hD 16 rfl
      clear hD
      refine makes1 (x := .tmp 50) (X := Value.slice ao1 k1 cap1) ((by kernel_rfl : _ = vals 16).trans h16) (fun ρ rc rf q50 => ?_)
      clear h16
      refine makes_call (hzer1 _ ((hM.adds hC).done)) ?_ (by rintro e w' ⟨rfl, hb⟩; exact ⟨_, rfl, hb, rfl⟩)
      go_simp
    · refine showA_run 18 (by intro _ _ _; kernel_rfl) (j := 11) (want := true) rfl rfl rfl (by intro _ _; kernel_rfl) rfl (fun c vals w hC hD => ⟨hD 11 rfl, ?_⟩)
      have h15 : vals 15 = .bool false := hD 15 rfl
      have h17 : vals 17 = .bool false := hD 17 rfl
      clear hD
      refine makes2 (x := .tmp 49) (X := Value.bool false) (y := .tmp 51) (Y := Value.bool false) ((by kernel_rfl : _ = vals 15).trans h15) ((by kernel_rfl : _ = vals 17).trans h17) (fun ρ rc rf q49 q51 => ?_)
      clear h15 h17
      refine makes_value (v := Value.bool false) ?_ ⟨Adds.refl _, rfl⟩
      go_simp
      all_goals first | done | rfl | (rw [if_pos (by omega)]; refine congrArg (fun x => Result.ok (Next.value (Value.pointer (some ⟨_, x, none⟩))) _) ?_; omega) | (rw [wrapP_i64]; omega) | go_num | (simp; omega) | (congr 1; first | (rw [wrapP_i64]; omega) | (simp; omega))
    · refine showA_run 19 (by intro _ _ _; kernel_rfl) (j := 11) (want := true) rfl rfl rfl (by intro _ _; kernel_rfl) rfl (fun c vals w hC hD => ⟨hD 11 rfl, ?_⟩)
      have h18 : vals 18 = .bool false := hD 18 rfl
      clear hD
      refine makes1 (x := .tmp 52) (X := Value.bool false) ((by kernel_rfl : _ = vals 18).trans h18) (fun ρ rc rf q52 => ?_)
      clear h18
      exact makes_move (.inl rfl) q52 ⟨Adds.refl _, rfl⟩
    · refine showA_run 20 (by intro _ _ _; kernel_rfl) (j := 19) (want := false) rfl rfl rfl (by intro _ _; kernel_rfl) rfl (fun c vals w hC hD => ⟨hD 19 rfl, ?_⟩)
      clear hD
      refine makes1 (x := .tmp 1) (X := Value.slice ao2 k2 cap2) (by kernel_rfl : _ = (Value.slice ao2 k2 cap2 : Value)) (fun ρ rc rf q1 => ?_)
      exact makes_move (.inl rfl) q1 ⟨Adds.refl _, rfl⟩
    · refine showA_run 21 (by intro _ _ _; kernel_rfl) (j := 19) (want := false) rfl rfl rfl (by intro _ _; kernel_rfl) rfl (fun c vals w hC hD => ⟨hD 19 rfl, ?_⟩)
      have h20 : vals 20 = .slice ao2 k2 cap2 := hD 20 rfl
      clear hD
      refine makes1 (x := .tmp 54) (X := Value.slice ao2 k2 cap2) ((by kernel_rfl : _ = vals 20).trans h20) (fun ρ rc rf q54 => ?_)
      clear h20
      refine makes_call (hzer2 _ ((hM.adds hC).done)) ?_ (by rintro e w' ⟨rfl, hb⟩; exact ⟨_, rfl, hb, rfl⟩)
      go_simp
    · refine showA_run 22 (by intro _ _ _; kernel_rfl) (j := 11) (want := true) rfl rfl rfl (by intro _ _; kernel_rfl) rfl (fun c vals w hC hD => ⟨hD 11 rfl, ?_⟩)
      have h19 : vals 19 = .bool false := hD 19 rfl
      have h21 : vals 21 = .bool true := hD 21 rfl
      clear hD
      refine makes2 (x := .tmp 53) (X := Value.bool false) (y := .tmp 55) (Y := Value.bool true) ((by kernel_rfl : _ = vals 19).trans h19) ((by kernel_rfl : _ = vals 21).trans h21) (fun ρ rc rf q53 q55 => ?_)
      clear h19 h21
      refine makes_value (v := Value.bool true) ?_ ⟨Adds.refl _, rfl⟩
      go_simp
      all_goals first | done | rfl | (rw [if_pos (by omega)]; refine congrArg (fun x => Result.ok (Next.value (Value.pointer (some ⟨_, x, none⟩))) _) ?_; omega) | (rw [wrapP_i64]; omega) | go_num | (simp; omega) | (congr 1; first | (rw [wrapP_i64]; omega) | (simp; omega))
    · refine showA_run 23 (by intro _ _ _; kernel_rfl) (j := 7) (want := true) rfl rfl rfl (by intro _ _; kernel_rfl) rfl (fun c vals w hC hD => ⟨hD 7 rfl, ?_⟩)
      have h11 : vals 11 = .bool true := hD 11 rfl
      have h22 : vals 22 = .bool true := hD 22 rfl
      clear hD
      refine makes2 (x := .tmp 45) (X := Value.bool true) (y := .tmp 56) (Y := Value.bool true) ((by kernel_rfl : _ = vals 11).trans h11) ((by kernel_rfl : _ = vals 22).trans h22) (fun ρ rc rf q45 q56 => ?_)
      clear h11 h22
      refine makes_value (v := Value.bool true) ?_ ⟨Adds.refl _, rfl⟩
      go_simp
      all_goals first | done | rfl | (rw [if_pos (by omega)]; refine congrArg (fun x => Result.ok (Next.value (Value.pointer (some ⟨_, x, none⟩))) _) ?_; omega) | (rw [wrapP_i64]; omega) | go_num | (simp; omega) | (congr 1; first | (rw [wrapP_i64]; omega) | (simp; omega))
    · refine showA_run 24 (by intro _ _ _; kernel_rfl) (j := 7) (want := true) rfl rfl rfl (by intro _ _; kernel_rfl) rfl (fun c vals w hC hD => ⟨hD 7 rfl, ?_⟩)
      have h23 : vals 23 = .bool true := hD 23 rfl
      clear hD
      refine makes1 (x := .tmp 57) (X := Value.bool true) ((by kernel_rfl : _ = vals 23).trans h23) (fun ρ rc rf q57 => ?_)
      clear h23
      refine makes_value (v := Value.bool false) ?_ ⟨Adds.refl _, rfl⟩
      go_simp
      all_goals first | done | rfl | (rw [if_pos (by omega)]; refine congrArg (fun x => Result.ok (Next.value (Value.pointer (some ⟨_, x, none⟩))) _) ?_; omega) | (rw [wrapP_i64]; omega) | go_num | (simp; omega) | (congr 1; first | (rw [wrapP_i64]; omega) | (simp; omega))
    · refine showA_op 25 (by intro _ _ _; kernel_rfl) rfl rfl (fun c vals w hC hD => ?_)
      have h7 : vals 7 = .bool true := hD 7 rfl
      have h24 : vals 24 = .bool false := hD 24 rfl
      clear hD
      refine makes2 (x := .tmp 41) (X := Value.bool true) (y := .tmp 58) (Y := Value.bool false) ((by kernel_rfl : _ = vals 7).trans h7) ((by kernel_rfl : _ = vals 24).trans h24) (fun ρ rc rf q41 q58 => ?_)
      clear h7 h24
      refine makes_value (v := Value.bool false) ?_ ⟨Adds.refl _, rfl⟩
      go_simp
      all_goals first | done | rfl | (rw [if_pos (by omega)]; refine congrArg (fun x => Result.ok (Next.value (Value.pointer (some ⟨_, x, none⟩))) _) ?_; omega) | (rw [wrapP_i64]; omega) | go_num | (simp; omega) | (congr 1; first | (rw [wrapP_i64]; omega) | (simp; omega))
    intro vals w' hC hΦ hne
    have h25 : vals 25 = .bool false := hΦ 25 (by decide)
    clear hΦ hne
    simp only [List.getD_eq_getElem?_getD, List.getElem?_cons_zero, List.getElem?_cons_succ, Option.getD_some, List.drop_succ_cons, List.drop_zero]
    simp only [h25]
    clear h25
    try simp only [tuple_undef]
    replace hM := hM.adds hC
    clear hC
  all_goals
    clear heq hsame
    go_wp2_with fail
    replace hM := hM.perm ((List.perm_append_comm (l₁ := [_, _, _, _]) (l₂ := [_, _])).append_right [_])
    simp only [List.cons_append, List.nil_append] at hM
    generalize w' = w6 at *
    clear hclu hzer1 hzer2
    obtain ⟨S, hS⟩ : ∃ S : World → Prop, S = fun w' => ∃ ob' cap', cap' ≤ maxLen ∧ Mem [] w0 w' [⟨some gl1, 122, [sl ob' (k1 + 1) cap'], 1⟩, ⟨ob', 64, evs l3, cap' * 33⟩, ⟨some g10, 24, R2.map B8, 32⟩, ⟨some g9, 24, R1.map B8, 32⟩, ⟨some gl2, 122, [sl ob2 k2 cl2], 1⟩, ⟨ob2, 64, evs l2, cl2 * 33⟩, ⟨some g5, 64, evC e, 33⟩] := ⟨_, rfl⟩
    have hSst : ∀ w1 w2, S w1 → Adds w1 w2 → S w2 := by
      subst hS
      rintro w1 w2 ⟨a, b, h1, h⟩ hb
      exact ⟨a, b, h1, h.adds hb⟩
    have hSadd : ∀ w', Adds w6 w' → Calls Try.prog 51 #[.pointer (some ⟨gl1, 0, none⟩), .agg (evC e).toArray] w' fun x w'' => x = .returned (.int .i64 0) ∧ S w'' := by
      subst hS
      intro w' hC
      refine (chain_Add gl1 ob1 k1 cl1 (evs l1) hA1 hcl1 (hM.adds hC) e hel).mono ?_
      rintro _ w'' (⟨h, -⟩ | ⟨-, rfl, ob', cap', h1, h2, h3⟩)
      · omega
      · rw [hsn] at h3
        exact ⟨rfl, ob', cap', h2, h3⟩
    have hSreg : ∀ w', S w' → Calls Try.prog 37 #[.pointer (some ⟨gl1, 0, none⟩)] w' fun x w'' => x = .returned (.agg (R3.map B8).toArray) ∧ Below w'.heap.size w' w'' := by
      subst hS
      rintro w' ⟨ob', cap', h1, h⟩
      exact hreg3 w' gl1 ob' cap' (h.rowN (.head _) rfl) (evs_elems h (.tail _ (.head _)) hL3)
    have hSev : ∀ w', S w' → Calls Try.prog 40 #[.pointer (some ⟨gl1, 0, none⟩)] w' fun x w'' => ∃ v, x = .returned v ∧ Below w'.heap.size w' w'' ∧ ∃ ob', v = .slice ob' (k1 + 1) (k1 + 1) := by
      subst hS
      rintro w' ⟨ob', cap', h1, h⟩
      refine (log_Events w' gl1 ob' (k1 + 1) cap' (evs l3) (h.rowN (.head _) rfl) hA3 hevo (by omega) ((evs_src h (.tail _ (.head _)) hA3).resolve_right (fun h => by have := h.2.1; omega))).mono ?_
      rintro _ w'' ⟨ob2', N, rfl, -, hM3⟩
      exact ⟨_, rfl, hM3.done, _, rfl⟩
    have hS9 : ∀ w', S w' → Loads Try.prog w' 24 ⟨g9, 0, none⟩ (.agg (R1.map B8).toArray) := by
      subst hS
      rintro w' ⟨ob', cap', h1, h⟩
      exact h.loads_all (.tail _ (.tail _ (.tail _ (.head _)))) (ag_of rfl) (hRl1.map _)
    have hS5 : ∀ w', S w' → Loads Try.prog w' 64 ⟨g5, 0, none⟩ (.agg (evC e).toArray) := by
      subst hS
      rintro w' ⟨ob', cap', h1, h⟩
      exact h.loads_all (.tail _ (.tail _ (.tail _ (.tail _ (.tail _ (.tail _ (.head _))))))) (ag_of rfl) hcl
    have hSb : ∀ w', S w' → Below w0.heap.size w0 w' := by
      subst hS
      rintro w' ⟨ob', cap', h1, h⟩
      exact h.done
    have hl5 : ∀ w', Adds w6 w' → Loads Try.prog w' 64 ⟨g5, 0, none⟩ (.agg (evC e).toArray) := fun w' hb => (hM.adds hb).loads_all (.tail _ (.tail _ (.tail _ (.tail _ (.tail _ (.tail _ (.head _))))))) (ag_of rfl) hcl
    clear hS hA1 hA3 hsn hL3 hL1 hL2 hreg3 hevo hel hM
    generalize evC e = Z at *
    try simp only [Act.put, List.setIfInBounds_toArray, List.set_cons_succ, List.set_cons_zero]
    refine wp_region_two 2 (by decide) (fun c vals => ⟨#[(Value.slice ao1 k1 cap1 : Value), c 1, c 2, c 3, c 4, (Value.pointer (some ⟨g5, 0, none⟩) : Value), vals 25, (Value.pointer (some ⟨gl1, 0, none⟩) : Value), c 8, (Value.pointer (some ⟨g9, 0, none⟩) : Value), c 10, c 11, c 12, c 13, c 14, c 15, c 16, c 17, c 18, c 19, c 20, c 21, c 22, c 23, c 24, c 25, c 26, c 27, c 28, c 29, c 30, c 31, c 32, c 33, c 34, c 35, c 36, c 37, c 38, c 39, c 40, c 41, c 42, c 43, c 44, c 45, c 46, c 47, c 48, c 49, c 50, c 51, c 52, c 53, c 54, c 55, c 56, c 57, c 58, c 59, vals 0, vals 1, vals 2, vals 3, vals 4, vals 5, vals 6, vals 7, vals 8, vals 9, vals 10, vals 11, vals 12, vals 13, vals 14, vals 15, vals 16, vals 17, vals 18, vals 19, vals 20, vals 21, vals 22, vals 23, vals 24], []⟩) (fun t => [undef, _, _, _, _, undef, undef, undef, _, undef, _, _, _, _, _, _, _, _, _, _, _, _, _, _, _, _, _, _, _, _, _, _, _, _, _, _, _, _, _, _, _, _, _, _, _, _, _, _, _, _, _, _, _, _, _, _, _, _, _, _, undef, undef, undef, undef, undef, undef, undef, undef, undef, undef, undef, undef, undef, undef, undef, undef, undef, undef, undef, undef, undef, undef, undef, undef, undef].getD t undef) (fun i => [_, _, _, _, _, _, _, _, _, _, _, _, _, _, _, _, _, _, _, _, _, _, _, _, _, _].getD i undef) (by kernel_rfl)
      [[], [], [0, 1], [0, 1, 2], [0, 1, 2, 3], [0, 1, 2, 3, 4], [0, 1, 2, 3, 4, 5], [0, 1, 2, 3, 4], [0, 1, 2, 3, 4], [0, 1, 2, 3, 4, 5, 6, 8], [0, 1, 2, 3, 4, 5, 6, 7, 8, 9], [0, 1, 2, 3, 4, 5, 6, 7, 8, 9, 10], [0, 1, 2, 3, 4, 5, 6, 7, 8, 9, 10, 11], [0, 1, 2, 3, 4, 5, 6, 7, 8, 9, 10, 11, 12], [0, 1, 2, 3, 4, 5, 6, 7, 8, 9, 10, 11, 12, 13], [0, 1, 2, 3, 4, 5, 6, 7, 8, 9, 10, 11, 12, 13, 14], [0, 1, 2, 3, 4, 5, 6, 7, 8, 9, 10, 11, 12, 13, 14, 15], [0, 1, 2, 3, 4, 5, 6, 7, 8, 9, 10, 11, 12, 13], [0, 1, 2, 3, 4, 5, 6, 7, 8, 9, 10, 11, 12, 13, 17], [0, 1, 2, 3, 4, 5, 6, 7, 8, 9, 10, 11, 12, 13, 17, 18], [0, 1, 2, 3, 4, 5, 6, 7, 8, 9, 10, 11, 12, 13, 14, 15, 16, 17, 18, 19], [0, 1, 2, 3, 4, 5, 6, 7, 8, 9, 10, 11, 12, 13, 14, 15, 16, 17, 18, 19, 20], [0, 1, 2, 3, 4, 5, 6, 7, 8, 9, 10, 11, 12, 13, 14, 15, 16, 17, 18, 19, 20, 21], [0, 1, 2, 3, 4, 5, 6, 7, 8, 9, 10, 11, 12, 13, 14, 15, 16, 17, 18, 19, 20, 21, 22], [0, 1, 2, 3, 4, 5, 6, 7, 8, 9, 10, 11, 12, 13, 14, 15, 16, 17, 18, 19, 20, 21, 22, 23], [0, 1, 2, 3, 4, 5, 6, 7, 8, 9, 10, 11, 12, 13, 14, 15, 16, 17, 18, 19, 20, 21, 22, 23, 24]] (by kernel_rfl) (by kernel_rfl) (fun _ => True) trivial
      [fun x _ => x = (Value.pointer (some ⟨gl1, 0, none⟩) : Value),
       fun x _ => x = (Value.agg Z.toArray : Value),
       fun x _ => x = (Value.int .i64 0 : Value),
       fun x _ => x = (Value.bool true : Value),
       fun x _ => x = (Value.bool true : Value),
       fun x _ => x = (Value.pointer (some ⟨gl1, 0, none⟩) : Value),
       fun x _ => x = (Value.agg (R3.map B8).toArray : Value),
       fun x _ => x = (Value.agg (R1.map B8).toArray : Value),
       fun x _ => x = (Value.agg Z.toArray : Value),
       fun x _ => x = (Value.agg (M.map B8).toArray : Value),
       fun x _ => x = (Value.agg (R3.map B8).toArray : Value),
       fun x _ => x = (Value.bool true : Value),
       fun x _ => x = (Value.bool true : Value),
       fun x _ => x = (Value.bool true : Value),
       fun x _ => x = (Value.pointer (some ⟨gl1, 0, none⟩) : Value),
       fun (xx : Value) (_ : World) => ∃ ob', xx = Value.slice ob' (k1 + 1) (k1 + 1),
       fun x _ => x = (Value.int .i64 ((k1 + 1 : Nat) : Int) : Value),
       fun x _ => x = (Value.slice ao1 k1 cap1 : Value),
       fun x _ => x = (Value.int .i64 k1 : Value),
       fun x _ => x = (Value.int .i64 ((k1 + 1 : Nat) : Int) : Value),
       fun x _ => x = (Value.bool true : Value),
       fun x _ => x = (Value.bool true : Value),
       fun x _ => x = (Value.bool true : Value),
       fun x _ => x = (Value.bool true : Value),
       fun x _ => x = (Value.bool true : Value),
       fun x _ => x = (Value.bool true : Value)]
      ⟨fun _ _ _ h _ => h, fun _ _ _ h _ => h, fun _ _ _ h _ => h, fun _ _ _ h _ => h, fun _ _ _ h _ => h, fun _ _ _ h _ => h, fun _ _ _ h _ => h, fun _ _ _ h _ => h, fun _ _ _ h _ => h, fun _ _ _ h _ => h, fun _ _ _ h _ => h, fun _ _ _ h _ => h, fun _ _ _ h _ => h, fun _ _ _ h _ => h, fun _ _ _ h _ => h, fun _ _ _ h _ => h, fun _ _ _ h _ => h, fun _ _ _ h _ => h, fun _ _ _ h _ => h, fun _ _ _ h _ => h, fun _ _ _ h _ => h, fun _ _ _ h _ => h, fun _ _ _ h _ => h, fun _ _ _ h _ => h, fun _ _ _ h _ => h, fun _ _ _ h _ => h, trivial⟩
      (fun i => match i with | 0 => fun _ _ _ _ h => h | 1 => fun _ _ _ _ h => h | (_ + 2) => fun _ _ _ h _ => absurd h (by omega))
      (S) (hSst)
      ⟨?_, ?_, trivial⟩ ?_ ⟨?_, ?_, ?_, ?_, ?_, ?_, ?_, ?_, ?_, ?_, ?_, ?_, ?_, ?_, ?_, ?_, ?_, ?_, ?_, ?_, ?_, ?_, ?_, trivial⟩ ?_
    · refine showA_op 0 (by intro _ _ _; kernel_rfl) rfl rfl (fun c vals w hC hD => ?_)
      clear hD
      refine makes1 (x := .tmp 7) (X := Value.pointer (some ⟨gl1, 0, none⟩)) (by kernel_rfl : _ = (Value.pointer (some ⟨gl1, 0, none⟩) : Value)) (fun ρ rc rf q7 => ?_)
      exact makes_move (.inl rfl) q7 ⟨Adds.refl _, rfl⟩
    · refine showA_op 1 (by intro _ _ _; kernel_rfl) rfl rfl (fun c vals w hC hD => ?_)
      clear hD
      refine makes1 (x := .tmp 5) (X := Value.pointer (some ⟨g5, 0, none⟩)) (by kernel_rfl : _ = (Value.pointer (some ⟨g5, 0, none⟩) : Value)) (fun ρ rc rf q5 => ?_)
      exact makes_load (hl5 _ hC) rfl q5 ⟨Adds.refl _, rfl⟩
    · intro o ho vals w' hC hD K hK
      cases ho
      have h0 : vals 0 = Value.pointer (some ⟨gl1, 0, none⟩) := hD 0 (by decide)
      have h1 : vals 1 = Value.agg Z.toArray := hD 1 (by decide)
      clear hD
      refine writer_of rfl hK (by intro _; kernel_rfl) (fun K2 hK2 => ?_)
      clear hK
      (refine Makes.wp (makes2 (x := .tmp 60) (y := .tmp 61) ((by kernel_rfl : _ = vals 0).trans h0) ((by kernel_rfl : _ = vals 1).trans h1) (fun ρ rc rf q60 q61 => ?_)) hK2; refine makes_call (hSadd _ hC) ?_ (by rintro _ w2 ⟨rfl, h⟩; exact ⟨_, rfl, rfl, h⟩); go_simp)
    · refine showA_op 3 (by intro _ _ _; kernel_rfl) rfl rfl (fun c vals w hC hD => ?_)
      have h2 : vals 2 = .int .i64 0 := hD 2 rfl
      clear hD
      refine makes1 (x := .tmp 62) (X := Value.int .i64 0) ((by kernel_rfl : _ = vals 2).trans h2) (fun ρ rc rf q62 => ?_)
      clear h2
      refine makes_value (v := Value.bool true) ?_ ⟨Adds.refl _, rfl⟩
      go_simp
      all_goals first | done | rfl | (rw [if_pos (by omega)]; refine congrArg (fun x => Result.ok (Next.value (Value.pointer (some ⟨_, x, none⟩))) _) ?_; omega) | (rw [wrapP_i64]; omega) | go_num | (simp; omega) | (congr 1; first | (rw [wrapP_i64]; omega) | (simp; omega))
    · refine showA_op 4 (by intro _ _ _; kernel_rfl) rfl rfl (fun c vals w hC hD => ?_)
      have h3 : vals 3 = .bool true := hD 3 rfl
      clear hD
      refine makes1 (x := .tmp 63) (X := Value.bool true) ((by kernel_rfl : _ = vals 3).trans h3) (fun ρ rc rf q63 => ?_)
      clear h3
      exact makes_move (.inl rfl) q63 ⟨Adds.refl _, rfl⟩
    · refine showA_run 5 (by intro _ _ _; kernel_rfl) (j := 4) (want := true) rfl rfl rfl (by intro _ _; kernel_rfl) rfl (fun c vals w hC hD => ⟨hD 4 rfl, ?_⟩)
      clear hD
      refine makes1 (x := .tmp 7) (X := Value.pointer (some ⟨gl1, 0, none⟩)) (by kernel_rfl : _ = (Value.pointer (some ⟨gl1, 0, none⟩) : Value)) (fun ρ rc rf q7 => ?_)
      exact makes_move (.inl rfl) q7 ⟨Adds.refl _, rfl⟩
    · refine showA_run 6 (by intro _ _ _; kernel_rfl) (j := 4) (want := true) rfl rfl rfl (by intro _ _; kernel_rfl) rfl (fun c vals w hC hD => ⟨hD 4 rfl, ?_⟩)
      have h5 : vals 5 = .pointer (some ⟨gl1, 0, none⟩) := hD 5 rfl
      clear hD
      refine makes1 (x := .tmp 65) (X := Value.pointer (some ⟨gl1, 0, none⟩)) ((by kernel_rfl : _ = vals 5).trans h5) (fun ρ rc rf q65 => ?_)
      clear h5
      refine makes_call (hSreg _ hC) ?_ (by rintro e w' ⟨rfl, hb⟩; exact ⟨_, rfl, hb, rfl⟩)
      go_simp
    · refine showA_run 7 (by intro _ _ _; kernel_rfl) (j := 4) (want := true) rfl rfl rfl (by intro _ _; kernel_rfl) rfl (fun c vals w hC hD => ⟨hD 4 rfl, ?_⟩)
      clear hD
      refine makes1 (x := .tmp 9) (X := Value.pointer (some ⟨g9, 0, none⟩)) (by kernel_rfl : _ = (Value.pointer (some ⟨g9, 0, none⟩) : Value)) (fun ρ rc rf q9 => ?_)
      exact makes_load (hS9 _ hC) rfl q9 ⟨Adds.refl _, rfl⟩
    · refine showA_run 8 (by intro _ _ _; kernel_rfl) (j := 4) (want := true) rfl rfl rfl (by intro _ _; kernel_rfl) rfl (fun c vals w hC hD => ⟨hD 4 rfl, ?_⟩)
      clear hD
      refine makes1 (x := .tmp 5) (X := Value.pointer (some ⟨g5, 0, none⟩)) (by kernel_rfl : _ = (Value.pointer (some ⟨g5, 0, none⟩) : Value)) (fun ρ rc rf q5 => ?_)
      exact makes_load (hS5 _ hC) rfl q5 ⟨Adds.refl _, rfl⟩
    · refine showA_run 9 (by intro _ _ _; kernel_rfl) (j := 4) (want := true) rfl rfl rfl (by intro _ _; kernel_rfl) rfl (fun c vals w hC hD => ⟨hD 4 rfl, ?_⟩)
      have h8 : vals 8 = .agg Z.toArray := hD 8 rfl
      clear hD
      refine makes1 (x := .tmp 68) (X := Value.agg Z.toArray) ((by kernel_rfl : _ = vals 8).trans h8) (fun ρ rc rf q68 => ?_)
      clear h8
      refine makes_call (hme _) ?_ (by rintro e w' ⟨rfl, hb⟩; exact ⟨_, rfl, hb, rfl⟩)
      go_simp
    · refine showA_run 10 (by intro _ _ _; kernel_rfl) (j := 4) (want := true) rfl rfl rfl (by intro _ _; kernel_rfl) rfl (fun c vals w hC hD => ⟨hD 4 rfl, ?_⟩)
      have h7 : vals 7 = .agg (R1.map B8).toArray := hD 7 rfl
      have h9 : vals 9 = .agg (M.map B8).toArray := hD 9 rfl
      clear hD
      refine makes2 (x := .tmp 67) (X := Value.agg (R1.map B8).toArray) (y := .tmp 69) (Y := Value.agg (M.map B8).toArray) ((by kernel_rfl : _ = vals 7).trans h7) ((by kernel_rfl : _ = vals 9).trans h9) (fun ρ rc rf q67 q69 => ?_)
      clear h7 h9
      refine makes_call (hext _) ?_ (by rintro e w' ⟨rfl, hb⟩; exact ⟨_, rfl, hb, rfl⟩)
      go_simp
    · refine showA_run 11 (by intro _ _ _; kernel_rfl) (j := 4) (want := true) rfl rfl rfl (by intro _ _; kernel_rfl) rfl (fun c vals w hC hD => ⟨hD 4 rfl, ?_⟩)
      have h6 : vals 6 = .agg (R3.map B8).toArray := hD 6 rfl
      have h10 : vals 10 = .agg (R3.map B8).toArray := hD 10 rfl
      clear hD
      refine makes2 (x := .tmp 66) (X := Value.agg (R3.map B8).toArray) (y := .tmp 70) (Y := Value.agg (R3.map B8).toArray) ((by kernel_rfl : _ = vals 6).trans h6) ((by kernel_rfl : _ = vals 10).trans h10) (fun ρ rc rf q66 q70 => ?_)
      clear h6 h10
      exact makes_eql (hash_self _ hRl3) rfl q66 q70 ⟨Adds.refl _, rfl⟩
    · refine showA_op 12 (by intro _ _ _; kernel_rfl) rfl rfl (fun c vals w hC hD => ?_)
      have h4 : vals 4 = .bool true := hD 4 rfl
      have h11 : vals 11 = .bool true := hD 11 rfl
      clear hD
      refine makes2 (x := .tmp 64) (X := Value.bool true) (y := .tmp 71) (Y := Value.bool true) ((by kernel_rfl : _ = vals 4).trans h4) ((by kernel_rfl : _ = vals 11).trans h11) (fun ρ rc rf q64 q71 => ?_)
      clear h4 h11
      refine makes_value (v := Value.bool true) ?_ ⟨Adds.refl _, rfl⟩
      go_simp
      all_goals first | done | rfl | (rw [if_pos (by omega)]; refine congrArg (fun x => Result.ok (Next.value (Value.pointer (some ⟨_, x, none⟩))) _) ?_; omega) | (rw [wrapP_i64]; omega) | go_num | (simp; omega) | (congr 1; first | (rw [wrapP_i64]; omega) | (simp; omega))
    · refine showA_op 13 (by intro _ _ _; kernel_rfl) rfl rfl (fun c vals w hC hD => ?_)
      have h12 : vals 12 = .bool true := hD 12 rfl
      clear hD
      refine makes1 (x := .tmp 72) (X := Value.bool true) ((by kernel_rfl : _ = vals 12).trans h12) (fun ρ rc rf q72 => ?_)
      clear h12
      exact makes_move (.inl rfl) q72 ⟨Adds.refl _, rfl⟩
    · refine showA_run 14 (by intro _ _ _; kernel_rfl) (j := 13) (want := true) rfl rfl rfl (by intro _ _; kernel_rfl) rfl (fun c vals w hC hD => ⟨hD 13 rfl, ?_⟩)
      clear hD
      refine makes1 (x := .tmp 7) (X := Value.pointer (some ⟨gl1, 0, none⟩)) (by kernel_rfl : _ = (Value.pointer (some ⟨gl1, 0, none⟩) : Value)) (fun ρ rc rf q7 => ?_)
      exact makes_move (.inl rfl) q7 ⟨Adds.refl _, rfl⟩
    · refine showA_run 15 (by intro _ _ _; kernel_rfl) (j := 13) (want := true) rfl rfl rfl (by intro _ _; kernel_rfl) rfl (fun c vals w hC hD => ⟨hD 13 rfl, ?_⟩)
      have h14 : vals 14 = .pointer (some ⟨gl1, 0, none⟩) := hD 14 rfl
      clear hD
      refine makes1 (x := .tmp 74) (X := Value.pointer (some ⟨gl1, 0, none⟩)) ((by kernel_rfl : _ = vals 14).trans h14) (fun ρ rc rf q74 => ?_)
      clear h14
      refine makes_call (hSev _ hC) ?_ (by rintro e w' ⟨v, rfl, hB, h⟩; exact ⟨_, rfl, hB, h⟩)
      go_simp
      all_goals first | done | rfl | exact lit8 _ (by decide)
    · refine showA_run 16 (by intro _ _ _; kernel_rfl) (j := 13) (want := true) rfl rfl rfl (by intro _ _; kernel_rfl) rfl (fun c vals w hC hD => ⟨hD 13 rfl, ?_⟩)
      have h15 : (fun (xx : Value) (_ : World) => ∃ ob', xx = Value.slice ob' (k1 + 1) (k1 + 1)) (vals 15) w := hD 15 rfl
      clear hD
      refine makes1 (x := .tmp 75) (X := vals 15) (by kernel_rfl : _ = vals 15) (fun ρ rc rf q75 => ?_)
      (obtain ⟨ob', e⟩ := h15; rw [e] at q75; refine makes_value (v := .int .i64 ((k1 + 1 : Nat) : Int)) ?_ ⟨Adds.refl _, rfl⟩; go_simp)
    · refine showA_run 17 (by intro _ _ _; kernel_rfl) (j := 13) (want := true) rfl rfl rfl (by intro _ _; kernel_rfl) rfl (fun c vals w hC hD => ⟨hD 13 rfl, ?_⟩)
      clear hD
      refine makes1 (x := .tmp 0) (X := Value.slice ao1 k1 cap1) (by kernel_rfl : _ = (Value.slice ao1 k1 cap1 : Value)) (fun ρ rc rf q0 => ?_)
      exact makes_move (.inl rfl) q0 ⟨Adds.refl _, rfl⟩
    · refine showA_run 18 (by intro _ _ _; kernel_rfl) (j := 13) (want := true) rfl rfl rfl (by intro _ _; kernel_rfl) rfl (fun c vals w hC hD => ⟨hD 13 rfl, ?_⟩)
      have h17 : vals 17 = .slice ao1 k1 cap1 := hD 17 rfl
      clear hD
      refine makes1 (x := .tmp 77) (X := Value.slice ao1 k1 cap1) ((by kernel_rfl : _ = vals 17).trans h17) (fun ρ rc rf q77 => ?_)
      clear h17
      refine makes_value (v := Value.int .i64 k1) ?_ ⟨Adds.refl _, rfl⟩
      go_simp
      all_goals first | done | rfl | (rw [if_pos (by omega)]; refine congrArg (fun x => Result.ok (Next.value (Value.pointer (some ⟨_, x, none⟩))) _) ?_; omega) | (rw [wrapP_i64]; omega) | go_num | (simp; omega) | (congr 1; first | (rw [wrapP_i64]; omega) | (simp; omega))
    · refine showA_run 19 (by intro _ _ _; kernel_rfl) (j := 13) (want := true) rfl rfl rfl (by intro _ _; kernel_rfl) rfl (fun c vals w hC hD => ⟨hD 13 rfl, ?_⟩)
      have h18 : vals 18 = .int .i64 k1 := hD 18 rfl
      clear hD
      refine makes1 (x := .tmp 78) (X := Value.int .i64 k1) ((by kernel_rfl : _ = vals 18).trans h18) (fun ρ rc rf q78 => ?_)
      clear h18
      refine makes_value (v := Value.int .i64 ((k1 + 1 : Nat) : Int)) ?_ ⟨Adds.refl _, rfl⟩
      go_simp
      all_goals first | done | rfl | (rw [if_pos (by omega)]; refine congrArg (fun x => Result.ok (Next.value (Value.pointer (some ⟨_, x, none⟩))) _) ?_; omega) | (rw [wrapP_i64]; omega) | go_num | (simp; omega) | (congr 1; first | (rw [wrapP_i64]; omega) | (simp; omega))
    · refine showA_run 20 (by intro _ _ _; kernel_rfl) (j := 13) (want := true) rfl rfl rfl (by intro _ _; kernel_rfl) rfl (fun c vals w hC hD => ⟨hD 13 rfl, ?_⟩)
      have h16 : vals 16 = .int .i64 ((k1 + 1 : Nat) : Int) := hD 16 rfl
      have h19 : vals 19 = .int .i64 ((k1 + 1 : Nat) : Int) := hD 19 rfl
      clear hD
      refine makes2 (x := .tmp 76) (X := Value.int .i64 ((k1 + 1 : Nat) : Int)) (y := .tmp 79) (Y := Value.int .i64 ((k1 + 1 : Nat) : Int)) ((by kernel_rfl : _ = vals 16).trans h16) ((by kernel_rfl : _ = vals 19).trans h19) (fun ρ rc rf q76 q79 => ?_)
      clear h16 h19
      refine makes_value (v := Value.bool true) ?_ ⟨Adds.refl _, rfl⟩
      go_simp
      all_goals first | done | rfl | (rw [if_pos (by omega)]; refine congrArg (fun x => Result.ok (Next.value (Value.pointer (some ⟨_, x, none⟩))) _) ?_; omega) | (rw [wrapP_i64]; omega) | go_num | (simp; omega) | (congr 1; first | (rw [wrapP_i64]; omega) | (simp; omega))
    · refine showA_op 21 (by intro _ _ _; kernel_rfl) rfl rfl (fun c vals w hC hD => ?_)
      have h13 : vals 13 = .bool true := hD 13 rfl
      have h20 : vals 20 = .bool true := hD 20 rfl
      clear hD
      refine makes2 (x := .tmp 73) (X := Value.bool true) (y := .tmp 80) (Y := Value.bool true) ((by kernel_rfl : _ = vals 13).trans h13) ((by kernel_rfl : _ = vals 20).trans h20) (fun ρ rc rf q73 q80 => ?_)
      clear h13 h20
      refine makes_value (v := Value.bool true) ?_ ⟨Adds.refl _, rfl⟩
      go_simp
      all_goals first | done | rfl | (rw [if_pos (by omega)]; refine congrArg (fun x => Result.ok (Next.value (Value.pointer (some ⟨_, x, none⟩))) _) ?_; omega) | (rw [wrapP_i64]; omega) | go_num | (simp; omega) | (congr 1; first | (rw [wrapP_i64]; omega) | (simp; omega))
    · refine showA_op 22 (by intro _ _ _; kernel_rfl) rfl rfl (fun c vals w hC hD => ?_)
      have h21 : vals 21 = .bool true := hD 21 rfl
      clear hD
      refine makes1 (x := .tmp 81) (X := Value.bool true) ((by kernel_rfl : _ = vals 21).trans h21) (fun ρ rc rf q81 => ?_)
      clear h21
      exact makes_move (.inl rfl) q81 ⟨Adds.refl _, rfl⟩
    · refine showA_run 23 (by intro _ _ _; kernel_rfl) (j := 22) (want := true) rfl rfl rfl (by intro _ _; kernel_rfl) rfl (fun c vals w hC hD => ⟨hD 22 rfl, ?_⟩)
      clear hD
      refine makes0 (fun ρ rc rf => ?_)
      refine makes_call (law16_fixed _) ?_ (by rintro e w' ⟨rfl, hb⟩; exact ⟨_, rfl, hb, rfl⟩)
      go_simp
    · refine showA_op 24 (by intro _ _ _; kernel_rfl) rfl rfl (fun c vals w hC hD => ?_)
      have h22 : vals 22 = .bool true := hD 22 rfl
      have h23 : vals 23 = .bool true := hD 23 rfl
      clear hD
      refine makes2 (x := .tmp 82) (X := Value.bool true) (y := .tmp 83) (Y := Value.bool true) ((by kernel_rfl : _ = vals 22).trans h22) ((by kernel_rfl : _ = vals 23).trans h23) (fun ρ rc rf q82 q83 => ?_)
      clear h22 h23
      refine makes_value (v := Value.bool true) ?_ ⟨Adds.refl _, rfl⟩
      go_simp
      all_goals first | done | rfl | (rw [if_pos (by omega)]; refine congrArg (fun x => Result.ok (Next.value (Value.pointer (some ⟨_, x, none⟩))) _) ?_; omega) | (rw [wrapP_i64]; omega) | go_num | (simp; omega) | (congr 1; first | (rw [wrapP_i64]; omega) | (simp; omega))
    · refine showA_op 25 (by intro _ _ _; kernel_rfl) rfl rfl (fun c vals w hC hD => ?_)
      have h24 : vals 24 = .bool true := hD 24 rfl
      clear hD
      refine makes1 (x := .tmp 84) (X := Value.bool true) ((by kernel_rfl : _ = vals 24).trans h24) (fun ρ rc rf q84 => ?_)
      clear h24
      exact makes_move (.inr rfl) q84 ⟨Adds.refl _, rfl⟩
    intro vals w' hC hΦ
    have h24 : vals 24 = .bool true := hΦ 24 (by decide)
    have h25 : vals 25 = .bool true := hΦ 25 (by decide)
    clear hΦ
    simp only [List.getD_eq_getElem?_getD, List.getElem?_cons_zero, List.getElem?_cons_succ, Option.getD_some]
    simp only [h24, h25]
    clear h24 h25
    try simp only [tuple_undef]
    have hB0 := hSb _ hC
    clear hC
    go_wp2_with fail
    go_ret
    exact ⟨rfl, hB0⟩
end Go.Proofs.Ytejmbkljnhnklaa
