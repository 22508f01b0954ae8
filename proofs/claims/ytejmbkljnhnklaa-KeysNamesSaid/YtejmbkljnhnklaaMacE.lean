/-
  The walks of the two Equals.
-/
import Derived.Test.YtejmbkljnhnklaaShaH
namespace Go.PK.Mac
/-- what the bytes differ by, up to a place -/
def dif (a b : List UInt8) : Nat → UInt8
  | 0 => 0
  | k + 1 => dif a b k ||| (gb a k ^^^ gb b k)
theorem or_zero8 (x y : UInt8) : x ||| y = 0 ↔ x = 0 ∧ y = 0 := by
  constructor
  · intro h
    have := congrArg UInt8.toNat h
    rw [UInt8.toNat_or] at this
    have h2 : x.toNat ||| y.toNat = 0 := this
    rw [Nat.or_eq_zero_iff] at h2
    exact ⟨UInt8.toNat_inj.1 h2.1, UInt8.toNat_inj.1 h2.2⟩
  · rintro ⟨rfl, rfl⟩
    rfl
theorem xor_zero8 (x y : UInt8) : x ^^^ y = 0 ↔ x = y := by
  constructor
  · intro h
    have := congrArg (· ^^^ y) h
    simp only [UInt8.xor_assoc, UInt8.xor_self, UInt8.xor_zero, UInt8.zero_xor] at this
    exact this
  · rintro rfl
    exact UInt8.xor_self
theorem dif_zero (a b : List UInt8) (k : Nat) : dif a b k = 0 ↔ ∀ i, i < k → gb a i = gb b i := by
  induction k with
  | zero => simp [dif]
  | succ k ih =>
    rw [dif, or_zero8, ih, xor_zero8]
    constructor
    · rintro ⟨h1, h2⟩ i hi
      rcases Nat.lt_succ_iff_lt_or_eq.1 hi with h | rfl
      · exact h1 i h
      · exact h2
    · exact fun h => ⟨fun i hi => h i (by omega), h k (by omega)⟩
theorem gb_ext {a b : List UInt8} (hl : a.length = b.length) : (∀ i, i < a.length → gb a i = gb b i) ↔ a = b := by
  constructor
  · intro h
    refine List.ext_getElem hl fun i h1 h2 => ?_
    have := h i h1
    unfold gb at this
    rw [List.getD_eq_getElem?_getD, List.getD_eq_getElem?_getD, List.getElem?_eq_getElem h1, List.getElem?_eq_getElem h2] at this
    exact this
  · rintro rfl
    exact fun _ _ => rfl
theorem dif_eq {a b : List UInt8} (hl : a.length = b.length) : (dif a b a.length == 0) = (a == b) := by
  rw [Bool.eq_iff_iff, beq_iff_eq, beq_iff_eq, dif_zero, gb_ext hl]
end Go.PK.Mac
namespace Go.Proofs.Ytejmbkljnhnklaa
open Go.RowKit Go.PK
set_option maxRecDepth 100000 in
set_option maxHeartbeats 4000000 in
theorem mac_Equal (w0 : World) (v1 v2 : Value) (a b : List UInt8) (hv1 : Bytes w0 v1 a) (hv2 : Bytes w0 v2 b) (x : Bool) (hx : (a == b) = x) :
    Calls Try.prog 25 #[v1, v2] w0 fun e w' => e = .returned (.bool x) ∧ Below w0.heap.size w0 w' := by
  have hM := Mem.start w0
  obtain ⟨ao1, cap1, rfl, e1, e2, -⟩ := id hv1
  obtain ⟨ao2, cap2, rfl, f1, f2, -⟩ := id hv2
  obtain ⟨na, hna⟩ : ∃ n, n = a.length := ⟨_, rfl⟩
  obtain ⟨nb, hnb⟩ : ∃ n, n = b.length := ⟨_, rfl⟩
  rw [← hna] at hv1 e1 ⊢
  rw [← hnb] at hv2 f1 ⊢
  have HX : ∀ _ : Unit, (a == b) = x := fun _ => hx
  have HA : ∀ _ : Unit, na = a.length := fun _ => hna
  have HB : ∀ _ : Unit, nb = b.length := fun _ => hnb
  clear hx hna hnb
  go_enter Try.func25, Try.ntmps25
  by_cases hl : na = nb
  · subst hl
    go_wp2
    go_loopw [5, 6, 14] (fun d _ i wr => ∃ k : Nat, k ≤ na ∧ i = .int .i64 k ∧ d = B8 (Mac.dif a b k) ∧ Mem [] w0 wr []) (fun _ _ i _ => na - (intOf i).toNat)
    case atStart => exact ⟨0, by omega, rfl, rfl, hM⟩
    case round =>
      clear hM
      obtain ⟨k, hk, rfl, rfl, hM⟩ := hrel
      by_cases hlt : k < na
      · have hti : (k : Int) < (na : Int) := by omega
        obtain ⟨b1, o1, he1, -, c1⟩ := (hM.bytes0 hv1).at (k := k) (by rw [← HA ()]; exact hlt)
        obtain ⟨b2, o2, he2, -, c2⟩ := (hM.bytes0 hv2).at (k := k) (by rw [← HB ()]; exact hlt)
        subst he1
        subst he2
        have HD : ∀ _ : Unit, Mac.dif a b (k + 1) = Mac.dif a b k ||| (a.getD k 0 ^^^ b.getD k 0) := fun _ => rfl
        generalize Mac.dif a b k = d at *
        generalize a.getD k 0 = xa at *
        generalize b.getD k 0 = xb at *
        go_wp2
        go_region
        all_goals go_wp2
        all_goals
          replace hM := hM.drew
          go_roundw
          case rel => exact ⟨k + 1, by omega, by go_num, by rw [HD ()], hM⟩
          case measure => simp [intOf]; omega
      · have hke : k = na := by omega
        subst hke
        have hd : (Mac.dif a b k == 0) = x := by rw [HA (), Mac.dif_eq (by rw [← HA (), ← HB ()]), HX ()]
        generalize Mac.dif a b k = d at *
        go_wp2
        go_ret
        exact ⟨by first | rfl | (rw [← hd]; rfl), hM.done⟩
  · have hxf : x = false := by
      rw [← HX ()]
      exact beq_eq_false_iff_ne.2 fun h => hl (by rw [HA (), HB (), h])
    have hne : ¬ (na : Int) = (nb : Int) := by omega
    subst hxf
    go_wp2
    go_ret
    exact ⟨rfl, hM.done⟩
set_option maxRecDepth 100000 in
set_option maxHeartbeats 4000000 in
theorem ref03_Equal (w0 : World) (v1 v2 : Value) (a b : List UInt8) (hv1 : Bytes w0 v1 a) (hv2 : Bytes w0 v2 b) (x : Bool) (hx : (a == b) = x) :
    Calls Try.prog 26 #[v1, v2] w0 fun e w' => e = .returned (.bool x) ∧ Below w0.heap.size w0 w' := by
  have hM := Mem.start w0
  obtain ⟨ao1, cap1, rfl, e1, e2, -⟩ := id hv1
  obtain ⟨ao2, cap2, rfl, f1, f2, -⟩ := id hv2
  obtain ⟨na, hna⟩ : ∃ n, n = a.length := ⟨_, rfl⟩
  obtain ⟨nb, hnb⟩ : ∃ n, n = b.length := ⟨_, rfl⟩
  rw [← hna] at hv1 e1 ⊢
  rw [← hnb] at hv2 f1 ⊢
  have HX : ∀ _ : Unit, (a == b) = x := fun _ => hx
  have HA : ∀ _ : Unit, na = a.length := fun _ => hna
  have HB : ∀ _ : Unit, nb = b.length := fun _ => hnb
  clear hx hna hnb
  go_enter Try.func26, Try.ntmps26
  by_cases hl : na = nb
  · subst hl
    go_wp2
    go_loopw [5] (fun i wr => ∃ k : Nat, k ≤ na ∧ i = .int .i64 k ∧ (∀ j, j < k → ∀ _ : Unit, gb a j = gb b j) ∧ Mem [] w0 wr []) (fun i _ => na - (intOf i).toNat)
    case atStart => exact ⟨0, by omega, rfl, fun j hj => by omega, hM⟩
    case round =>
      clear hM
      obtain ⟨k, hk, rfl, hs, hM⟩ := hrel
      by_cases hlt : k < na
      · have hti : (k : Int) < (na : Int) := by omega
        obtain ⟨b1, o1, he1, -, c1⟩ := (hM.bytes0 hv1).at (k := k) (by rw [← HA ()]; exact hlt)
        obtain ⟨b2, o2, he2, -, c2⟩ := (hM.bytes0 hv2).at (k := k) (by rw [← HB ()]; exact hlt)
        subst he1
        subst he2
        obtain ⟨xa, hxa⟩ : ∃ xa, xa = a.getD k 0 := ⟨_, rfl⟩
        obtain ⟨xb, hxb⟩ : ∃ xb, xb = b.getD k 0 := ⟨_, rfl⟩
        rw [← hxa] at c1
        rw [← hxb] at c2
        have HXA : ∀ _ : Unit, xa = gb a k := fun _ => hxa
        have HXB : ∀ _ : Unit, xb = gb b k := fun _ => hxb
        clear hxa hxb
        by_cases hab : xa = xb
        · have hab2 : (xa != xb) = false := by simpa using hab
          have hs2 : ∀ j, j < k + 1 → ∀ _ : Unit, gb a j = gb b j := fun j hj u => by
            rcases Nat.lt_succ_iff_lt_or_eq.1 hj with h | rfl
            · exact hs j h u
            · rw [← HXA (), ← HXB (), hab]
          clear hab
          go_wp2
          go_region
          all_goals go_wp2
          all_goals
            replace hM := hM.drew
            go_roundw
            case rel => exact ⟨k + 1, by omega, by go_num, hs2, hM⟩
            case measure => simp [intOf]; omega
        · have hab2 : (xa != xb) = true := by simpa using hab
          have hxf : x = false := by
            rw [← HX ()]
            refine beq_eq_false_iff_ne.2 fun h => hab ?_
            rw [HXA (), HXB (), h]
          clear hab
          subst hxf
          go_wp2
          go_region
          all_goals go_wp2
          all_goals
            go_ret
            exact ⟨rfl, hM.drew.done⟩
      · have hke : k = na := by omega
        subst hke
        have hxt : x = true := by
          rw [← HX ()]
          refine beq_iff_eq.2 ((Mac.gb_ext (by rw [← HA (), ← HB ()])).1 fun i hi => hs i (by rw [HA ()]; exact hi) ())
        subst hxt
        go_wp2
        go_ret
        exact ⟨rfl, hM.done⟩
  · have hxf : x = false := by
      rw [← HX ()]
      exact beq_eq_false_iff_ne.2 fun h => hl (by rw [HA (), HB (), h])
    have hne : ¬ (na : Int) = (nb : Int) := by omega
    subst hxf
    go_wp2
    go_ret
    exact ⟨rfl, hM.done⟩
end Go.Proofs.Ytejmbkljnhnklaa
