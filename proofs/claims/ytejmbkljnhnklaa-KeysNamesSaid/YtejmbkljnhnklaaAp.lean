/-
  An append as what it makes of its operands.
-/
import Derived.Test.YtejmbkljnhnklaaPool
namespace Go.PK
open Go.RowKit
section
variable {P : Program} {o : Oper} {w w0 : World} {R : Value → World → Prop} {ρ : Operand → Value} {G : List Nat} {L : List Blk}
theorem makes_value2 {v : Value} {w' : World} (hr : (execOp ρ o).run P w = .ok (.value v) w') (hR : R v w') : Makes P ρ o w R := .inl ⟨v, w', hr, hR⟩
theorem Mem.makes_append (hM : Mem G w0 w L) {s x : Operand} {t : TypeId} {ob : Option Nat} {e : TypeId} {C : List Value} {N n cap size bytes : Nat} {L' : Option Nat → Nat → List Blk} (ho : o.op = .call { callee := .builtin .append, args := #[s, x], argTypes := #[t, t] })
    (hs : ρ s = sl ob n cap) (ht : P.underlying t = some (.slice e)) (hel : El P e size bytes)
    {news : List Value} (hb : ∀ ob' cap', Swap L ⟨ob, e, C, N⟩ ⟨ob', e, C ++ news, cap' * size⟩ (L' ob' cap')) (hN : N = cap * size) (hC : C.length = n * size) (hcap : cap ≤ maxLen)
    {u : Value} {m : Nat} (hx : ρ x = u) (hsrc : Src w u m news) (hl : news.length = m * size) (h1 : ∀ u ∈ news, u.oneCell' = true)
    (h63 : n + m ≤ maxLen) (hbytes : (n + m) * bytes ≤ 140737488355328)
    (h : ∀ ob' cap' w', Mem G w0 w' (L' ob' cap') → n + m ≤ cap' → cap' ≤ maxLen → R (sl ob' (n + m) cap') w') :
    Makes P ρ o w R := by
  obtain ⟨z, hinfo, hzs, hsz⟩ := hel
  obtain ⟨i, hi, hz, hsize, hby⟩ := info_parts hinfo
  have hmem := (hb none 0).mem
  obtain ⟨base, hb1, hb2⟩ : ∃ base, base ≤ w.heap.size ∧ ∀ g, ob = some g → base ≤ g ∧ g = base := by
    cases ob with
    | none => exact ⟨w.heap.size, Nat.le_refl _, by simp⟩
    | some g => exact ⟨g, Nat.le_of_lt ((hM.holds _ hmem).lt rfl), fun g' hg' => by cases hg'; exact ⟨Nat.le_refl _, rfl⟩⟩
  have hown := hM.owns hmem hN hC hsz hcap base (fun g hg => (hb2 g hg).1)
  have hrow : ∀ k, (sl ob n cap).ownBlock = some k → ob = some k := by
    intro k hk
    cases ob with
    | none => simp [sl, Value.ownBlock] at hk
    | some g => simpa [sl, Value.ownBlock] using hk
  have fin : ∀ (ob' : Option Nat) (cap' : Nat) (w' : World), w.grownBy w' (sl ob n cap).ownBlock → (Blk.mk ob' e (C ++ news) (cap' * size)).holds w' → (∀ g, ob' = some g → ob = some g ∨ g = w.heap.size) → Mem G w0 w' (L' ob' cap') := by
    intro ob' cap' w' hg hh hlies
    have hsw := hb ob' cap'
    refine ⟨hM.touch.step (H := (ob.toList)) ⟨hg.os, hg.tape, hg.output, hg.size, fun k hk hno => hg.block k hk fun he => hno (by rw [hrow k he.symm]; simp)⟩ ?_, fun b hb' => ?_, fun b hb' => ?_, ?_⟩
    · intro k hk
      have hk' : ob = some k := by cases ob <;> simp_all
      exact hM.own _ hmem k hk'
    · rcases hsw.other hM.nodup b hb' with rfl | ⟨h1, h2⟩
      · exact hh
      · refine (hM.holds b h1).of_block fun k hk => hg.block k ((hM.holds b h1).lt hk) fun he => ?_
        exact h2 k (hrow k he.symm) hk
    · rcases hsw.mem' b hb' with rfl | h1
      · intro g hg'
        rcases hlies g hg' with h1 | h1
        · exact hM.own _ hmem g h1
        · exact .inr (by rw [h1]; exact hM.touch.size)
      · exact hM.own b h1
    · refine hsw.nodup hM.nodup fun g hg' => ?_
      rcases hlies g hg' with h1 | h1
      · exact .inl h1
      · exact .inr fun y hy he => by have := (hM.holds y hy).lt he; omega
  have hrun : ∃ v' w', (Builtin.append_ #[t, t] o.type #[sl ob n cap, u]).run P w = .ok v' w' ∧ w'.ownsRow base e size v' (n + m) (C ++ news) ∧ w.grownBy w' (sl ob n cap).ownBlock ∧ (v'.ownBlock = (sl ob n cap).ownBlock ∨ v'.ownBlock = some w.heap.size) := by
    rcases hsrc with ⟨ad, c, rfl, hnews⟩ | ⟨rfl, rfl, rfl⟩
    · obtain ⟨v', w', r1, r2, r3, -, r4⟩ := run_append_own_at (P := P) w base t o.type e i z size bytes ht hi hz hsize hby hzs hsz (sl ob n cap) n C hown ad m c news hl hnews h1 h63 hbytes hb1
      exact ⟨v', w', r1, r2, r3, r4⟩
    · refine ⟨_, w, run_append_owned_none (P := P) w base t o.type e i size ht hi (sl ob n cap) n C hown, by simpa using hown, World.grownBy.refl _ _, .inl rfl⟩
  obtain ⟨v', w', hr, hown2, hg, hlies⟩ := hrun
  have hr2 : (execOp ρ o).run P w = .ok (.value v') w' := by
    unfold execOp
    simp only [ho, resolve, invoke, builtin, Sem.run_bind, Sem.run_pure, Result.andThen_ok, List.map_toArray, List.map_cons, List.map_nil, hs, hx, hr]
  refine makes_value2 hr2 ?_
  rcases hown2.2 with ⟨rfl, h0⟩ | ⟨g, cap', cur, rfl, hbg, hcell, hc1, hc2, hc3, hc4⟩
  · have hCn : C ++ news = [] := List.eq_nil_of_length_eq_zero (by rw [hown2.1, h0, Nat.zero_mul])
    have := h none 0 w' (fin none 0 w' hg ⟨hCn, by simp⟩ (by simp)) (by omega) (by simp [maxLen])
    rw [h0] at this
    exact this
  · refine h (some g) cap' w' (fin (some g) cap' w' hg ⟨cur.toList.drop ((n + m) * size), ?_, ?_⟩ ?_) hc1 hc2
    · rw [hcell, ← hc4, List.take_append_drop]
    · simp only [List.length_append, hC, hl, List.length_drop, Array.length_toList, hc3]
      have : (n + m) * size ≤ cap' * size := Nat.mul_le_mul_right _ hc1
      rw [Nat.add_mul] at this ⊢
      omega
    · intro k hk
      cases hk
      rcases hlies with h1 | h1
      · left
        exact hrow g (by rw [← h1]; rfl)
      · right
        simpa [Value.ownBlock] using h1
/-- append(nil, u..): a new row -/
theorem makes_append_nil {s x : Operand} {t e : TypeId} {size bytes m : Nat} {news : List Value} {u : Value} (ho : o.op = .call { callee := .builtin .append, args := #[s, x], argTypes := #[t, t] }) (hs : ρ s = .slice none 0 0) (ht : P.underlying t = some (.slice e)) (hel : El P e size bytes)
    (hx : ρ x = u) (hsrc : Src w u m news) (hl : news.length = m * size) (h1 : ∀ u ∈ news, u.oneCell' = true) (h63 : m ≤ maxLen) (hbytes : m * bytes ≤ 140737488355328)
    (h : ∀ ob cap w', Mem [] w w' [⟨ob, e, news, cap * size⟩] → m ≤ cap → cap ≤ maxLen → R (sl ob m cap) w') : Makes P ρ o w R := by
  have hM := (Mem.start w).addNil e
  refine hM.makes_append (ob := none) (n := 0) (cap := 0) (C := []) (N := 0) (L' := fun ob' cap' => [⟨ob', e, [] ++ news, cap' * size⟩]) ho hs ht hel (fun _ _ => .here _ _ _) (by rw [Nat.zero_mul]) (by rw [Nat.zero_mul]; rfl) (by decide) hx hsrc hl h1 (by omega) (by rw [Nat.zero_add]; exact hbytes) ?_
  intro ob cap w' hM2 h2 h3
  rw [Nat.zero_add] at h2
  have := h ob cap w' hM2 h2 h3
  rwa [Nat.zero_add]
end
end Go.PK
