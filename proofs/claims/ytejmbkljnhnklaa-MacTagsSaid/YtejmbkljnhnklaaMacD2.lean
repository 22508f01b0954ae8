/-
  The walk of the reference's Derive; MacTags.
-/
import Derived.Lib.LazyBuf
import Derived.Test.YtejmbkljnhnklaaMacD
namespace Go.PK
open Go.RowKit
theorem wpList_append_conv {P : Program} {w : World} {ops : Array Oper} {rest : List Oper} {o : Oper} {a : Act} {Q : Exit → Act → World → Prop} (hg : o.guard = none) (s x : Operand) (t : TypeId)
    (hop : o.op = Op.call { callee := Callee.builtin Builtin.append, args := #[s, x], argTypes := #[t, t] }) {e : TypeId} (ht : P.underlying t = some (.slice e)) (hel : El P e 1 1)
    {g n cap m c : Nat} {ad : Addr} {l l2 : List UInt8} (hs : a.eval s = .slice (some ⟨g, 0, none⟩) n cap) (hl : Len l n) (hl2 : Len l2 m) (hx : a.eval x = .slice (some ad) m c)
    (hBl : ∀ j v, (l.map B8)[j]? = some v → w.cell? ⟨g, 0 + j, none⟩ = some v) (hB2 : ∀ j v, (l2.map B8)[j]? = some v → w.cell? (ad.add j) = some v)
    (hspare : ∀ j, j < cap → (w.cell? ⟨g, j, none⟩).isSome = true ∧ w.frozen? ⟨g, j, none⟩ = false) (hgw : g < w.heap.size) (base : Nat) (hb1 : base ≤ g) (_hb2 : base ≤ w.heap.size) (hcap : cap ≤ maxLen) (hlen : n + m ≤ 140737488355328)
    (h : ∀ v' w', Bytes w' v' (l ++ l2) → Below base w w' → wpList P ops Q rest (a.put o.dst v') w') : wpList P ops Q (o :: rest) a w := by
  obtain ⟨z, hinfo, hzs, hsz⟩ := hel
  obtain ⟨i, hi, hz, hsize, hby⟩ := info_parts hinfo
  have hone : ∀ u ∈ l2.map B8, u.oneCell' = true := by
    intro u hu
    obtain ⟨c, _, rfl⟩ := List.mem_map.1 hu
    rfl
  refine wpList_append_arg w hg s x t hop e i z 1 1 ht hi hz hsize hby hzs (by decide) g 0 n cap (l.map B8) hs (by rw [List.length_map, hl.eq, Nat.mul_one]) hBl ad m c (l2.map B8) hx (by rw [List.length_map, hl2.eq, Nat.mul_one]) hB2 hone
    (fun hr j hj => hspare _ (by rw [List.length_map, hl2.eq] at hj; omega)) (by simp only [maxLen]; omega) (by omega) (fun hr => ?_) (fun hr v' w' r1 r2 => ?_)
  · have hm2 : ∀ j, j < (l2.map B8).length → (w.cell? ⟨g, 0 + n * 1 + j, none⟩).isSome = true := fun j hj => (hspare _ (by rw [List.length_map, hl2.eq] at hj; omega)).1
    have hbel : Below base w (w.setCells g (0 + n * 1) (l2.map B8)) := Go.below_setCells hb1 _ _ _ (Below.refl _ _)
    refine h _ _ ⟨some ⟨g, 0, none⟩, cap, by rw [List.length_append, hl.eq, hl2.eq], by rw [List.length_append, hl.eq, hl2.eq]; exact hr, by simpa [maxLen] using hcap, (fun h => by cases h), fun j hj => ⟨g, 0, rfl, Nat.lt_of_lt_of_le hgw hbel.size, ?_⟩⟩ hbel
    rw [List.length_append, hl.eq, hl2.eq] at hj
    by_cases hjn : j < n
    · rw [World.cell?_setCells_out _ _ _ _ _ (fun _ _ => .inl (by simp; omega)), hBl j _ (get_map 0 (by rw [hl.eq]; exact hjn))]
      congr 2
      rw [List.getD_eq_getElem?_getD, List.getD_eq_getElem?_getD, List.getElem?_append_left (by rw [hl.eq]; exact hjn)]
    · have := World.cell?_setCells_in g (l2.map B8) (0 + n * 1) w hm2 (j - n) (by rw [List.length_map, hl2.eq]; omega)
      rw [show 0 + n * 1 + (j - n) = 0 + j from by omega] at this
      rw [this, List.getElem_map, List.getD_eq_getElem?_getD, List.getElem?_append_right (by rw [hl.eq]; omega), hl.eq, List.getElem?_eq_getElem (by rw [hl2.eq]; omega)]
      rfl
  · rw [← List.map_append] at r1
    exact h _ _ (Bytes.of_owns r1).2 ⟨r2.os, r2.tape, r2.output, r2.size, fun k hk => r2.block k (by omega) (by simp)⟩
theorem wpList_append_conv5 {P : Program} {w : World} {ops : Array Oper} {rest : List Oper} {o : Oper} {a : Act} {Q : Exit → Act → World → Prop} (hg : o.guard = none) (s x : Operand) (t : TypeId)
    (hop : o.op = Op.call { callee := Callee.builtin Builtin.append, args := #[s, x], argTypes := #[t, t] }) {e e' : TypeId} (ht : P.underlying t = some (.slice e)) (hel : El P e 1 1)
    {g n cap m k : Nat} {A : Array Value} {l l2 : List UInt8} (hA : A = (l2.map B8).toArray) (hs : a.eval s = .slice (some ⟨g, 0, none⟩) n cap) (hl : Len l n) (hl2 : Len l2 m) (hx : a.eval x = .slice (some ⟨k, 0, none⟩) m m) (hk : w.heap.size = k) (hgk : g < k)
    (hB : Bytes w (.slice (some ⟨g, 0, none⟩) n cap) l) (hsp : ∀ j, j < cap → (w.cell? ⟨g, j, none⟩).isSome = true ∧ w.frozen? ⟨g, j, none⟩ = false) (hcap : cap ≤ maxLen) (hlen : n + m ≤ 140737488355328)
    (h : ∀ v' w', Bytes w' v' (l ++ l2) → Below g w w' → wpList P ops Q rest (a.put o.dst v') w') : wpList P ops Q (o :: rest) a (w.alloc (.cells A e')) := by
  subst hA hk
  have hbel : Below g w (w.alloc (.cells (l2.map B8).toArray e')) := (Below.refl _ _).alloc (by omega) _
  refine wpList_append_conv hg s x t hop ht hel hs hl hl2 hx (fun j v hv => ?_) (fun j v hv => ?_) (fun j hj => ?_) (by simp; omega) g (Nat.le_refl _) (by simp; omega) hcap hlen (fun v' w' h1 h2 => h v' w' h1 (hbel.trans h2))
  · rw [World.cell?_alloc_past _ _ _ hgk]
    have hj : j < l.length := by
      have := (List.getElem?_eq_some_iff.1 hv).1
      simpa using this
    have := hB.at hj
    obtain ⟨b, off, g1, g2, g3⟩ := this
    cases g1
    rw [g3, ← hv, get_map 0 hj]
  · rw [show (⟨w.heap.size, 0, none⟩ : Addr).add j = ⟨w.heap.size, 0 + j, none⟩ from by (simp [Addr.add]; omega), World.cell?_alloc_at _ _ _ _ rfl, Nat.zero_add, List.getElem?_toArray, hv]
  · rw [World.cell?_alloc_past _ _ _ hgk, World.frozen?_alloc_past _ _ _ hgk]
    exact hsp j hj
end Go.PK
namespace Go.Proofs.Ytejmbkljnhnklaa
open Go.RowKit Go.PK
set_option maxRecDepth 100000 in
set_option maxHeartbeats 4000000 in
theorem ref03_Derive (w0 : World) (v1 : Value) (key label : List UInt8) (hv1 : Bytes w0 v1 key) (h1 : key.length ≤ 140737488355000) (h2 : label.length ≤ 140737488354000) (T : List UInt8) (hT : Mac.derive key label = T) :
    Calls Try.prog 33 #[v1, .string ⟨label.toArray⟩] w0 fun e w' => e = .returned (.agg (T.map B8).toArray) ∧ Below w0.heap.size w0 w' := by
  have hTl : Len T 32 := by rw [← hT]; exact Len.of (Mac.tag_len _ _)
  have hof : ∀ w v, Bytes w v1 key → Bytes w v (label ++ [0, 1, 0, 0, 0]) → _ := fun w v h h' => ref03_Of w v1 v key (label ++ [0, 1, 0, 0, 0]) h h' h1 (by simp; omega) T hT
  clear hT
  have hM := Mem.start w0
  have hll : Len label label.length := Len.of rfl
  go_enter Try.func33, Try.ntmps33
  have hway : ∀ w, _ := fun w => conv_bytes (P := Try.prog) (src := 9) (dst := 22) (e := 5) Try.underlying9 Try.underlying22 Try.underlying5 w label (by simp only [maxLen]; omega)
  go_wp2_with (first | ((first | ((with_reducible refine gL_alloc (dst := some 4) hM ?_); refine ⟨_, _, (zr_of rfl), ?_⟩) | ((with_reducible refine gL_box (dst := some 4) hM ?_); refine ⟨_, _, _, rfl, rfl, (by first | assumption | exact Len.map (by assumption) _ | rfl | exact Len.map (by rfl) _ | exact Len.of (by simp; done)), ?_⟩)); intro g4 _ hM2; clear hM; have hM := hM2; clear hM2) | ((with_reducible refine gL_convert ?_); obtain ⟨capl, wl, hrun, hAl, hBl, hcl, hsl, hsp⟩ := hway _; refine ⟨_, _, _, rfl, hrun, ?_⟩; clear hrun hway) | (at_builtin; (refine wpList_append_conv5 rfl (.tmp 7) (.tmp 8) 22 rfl (e := 5) Try.underlying22 (el_of rfl) (l2 := [0, 1, 0, 0, 0]) (m := 5) rfl rfl hll (Len.of rfl) rfl hsl (by omega) hBl hsp hcl (by omega) ?_); intro vc wc hBc hbc; replace hM := hM.adds (Go.RowKit.Below.trans hAl hbc)) | fail)
  refine (hof _ _ (hM.bytes0 hv1) hBc).mono ?_
  rintro _ w4 ⟨rfl, hB⟩
  replace hM := hM.adds hB
  clear hB
  go_wp2_with (first | ((with_reducible refine gL_store hM ?_); refine ⟨_, _, _, rfl, rfl, hM.stores_all (by (repeat (first | exact .here _ _ _ | apply Has.there)); done) (ag_of rfl) (hTl.map _) (by rfl) B8_one, ?_⟩; intro _ hM2; clear hM; have hM := hM2; clear hM2))
  exact hM.ret_cell rfl rfl rfl (by (repeat (first | exact .head _ | apply List.Mem.tail)); done) (ag_of rfl) (hTl.map _) ⟨rfl, hM.done⟩
end Go.Proofs.Ytejmbkljnhnklaa
