/-
  A drawn region in which a row that was made is marked behind its last cell: cells stay, marks may come.
-/
import Derived.Test.YtejmbkljnhnklaaRg2
import Derived.Test.YtejmbkljnhnklaaRd
namespace Go.PK
open Go.RowKit

/-- what lies below m lies as it lay; of what lies beyond, the cells -/
structure Grows (m : Nat) (w w' : World) : Prop where
  below : Below m w w'
  cells : ∀ (k : Nat) (C : Array Value) (e : TypeId) (f : Nat × Nat), w.heap[k]? = some (Obj.cells C e f) → ∃ f', w'.heap[k]? = some (Obj.cells C e f')
theorem Grows.of_adds {m : Nat} {w w' : World} (h : Adds w w') (hm : m ≤ w.heap.size) : Grows m w w' :=
  ⟨h.mono hm, fun k _ _ f hk => ⟨f, (h.block k (Array.getElem?_eq_some_iff.1 hk).1).trans hk⟩⟩
theorem Grows.cell {m : Nat} {w w' : World} {a : Addr} {v : Value} (h : Grows m w w') (hc : w.cell? a = some v) : w'.cell? a = some v := by
  unfold World.cell? at hc ⊢
  split at hc
  · rename_i C e f hk
    obtain ⟨f', hf⟩ := h.cells _ _ _ _ hk
    rw [hf]
    exact hc
  · cases hc
theorem Bytes.grows {m : Nat} {w w' : World} {v : Value} {l : List UInt8} (h : Bytes w v l) (hb : Grows m w w') : Bytes w' v l := by
  obtain ⟨ao, cap, e, h1, h2, h3, h4⟩ := h
  refine ⟨ao, cap, e, h1, h2, h3, fun j hj => ?_⟩
  obtain ⟨b, off, g1, g2, g3⟩ := h4 j hj
  exact ⟨b, off, g1, Nat.lt_of_lt_of_le g2 hb.below.size, hb.cell g3⟩

def StableG (m : Nat) : List (Value → World → Prop) → Prop
  | [] => True
  | Φ :: rest => (∀ x w w', Φ x w → Grows m w w' → Φ x w') ∧ StableG m rest
theorem StableG.get {m : Nat} : ∀ (l : List (Value → World → Prop)), StableG m l → ∀ i x w w', l.getD i (fun _ _ => True) x w → Grows m w w' → l.getD i (fun _ _ => True) x w'
  | [], _, i, x, w, w', _, _ => by simp
  | Φ :: rest, h, 0, x, w, w', hx, hb => h.1 x w w' hx hb
  | Φ :: rest, h, i + 1, x, w, w', hx, hb => StableG.get rest h.2 i x w w' hx hb

section
variable {P : Program} {Q : Exit → Act → World → Prop}
theorem wp_region_grows {id : Nat} {l : List Oper} (fr : (Nat → Value) → (Nat → Value) → Act) (c vals0 : Nat → Value) {w : World} (hm : P.follows .mixedOrders = true)
    (D : List (List Nat)) (hD : aheadOk l D = true) (X : (Nat → Value) → Prop) (hX : X c)
    (Φs : List (Value → World → Prop)) (hΦ : StableG w.heap.size Φs)
    (hshow : Shows P l.toArray Q fr X (Grows w.heap.size) (Adds w) Φs D 0 l)
    (hfin : ∀ vals w', Adds w w' → (∀ i, i < l.length → Φs.getD i (fun _ _ => True) (vals i) w') → Q .normal (fr c vals) w') : (Code.region id l.toArray true).wp P Q (fr c vals0) w :=
  wp_region_rel fr c vals0 hm D hD X hX (Grows w.heap.size) (Adds w) ((Adds.refl w).drew) (fun _ _ h k => Below.trans h k.below) Φs hΦ.get hshow hfin

variable {ops : Array Oper} {fr : (Nat → Value) → (Nat → Value) → Act} {X : (Nat → Value) → Prop} {w0 : World} {Φs : List (Value → World → Prop)} {D : List (List Nat)} {o : Oper}
def ShowG (P : Program) (ops : Array Oper) (Q : Exit → Act → World → Prop) (fr : (Nat → Value) → (Nat → Value) → Act) (X : (Nat → Value) → Prop) (m : Nat) (C : World → Prop) (Φs : List (Value → World → Prop)) (D : List (List Nat)) (k : Nat) (o : Oper) : Prop :=
  (∀ c vals v, (fr c vals).put o.dst v = fr c (upd vals k v)) ∧
     ∀ c, X c → ∀ vals w, C w → (∀ j, (D.getD k []).contains j = true → Φs.getD j (fun _ _ => True) (vals j) w) →
      ∀ K : Act → World → Prop, (∀ v w', Grows m w w' → Φs.getD k (fun _ _ => True) v w' → K (fr c (upd vals k v)) w') →
       if Region.wanted o (yielded ops (fr c vals).tmps) = true then o.wp P (fr c vals) w K Q else K ((fr c vals).put o.dst undef) w
theorem showG_mark (k : Nat) (hput : ∀ c vals v, (fr c vals).put o.dst v = fr c (upd vals k v)) (hg : o.guard = none)
    (h : ∀ c vals w, Adds w0 w → (∀ j, (D.getD k []).contains j = true → Φs.getD j (fun _ _ => True) (vals j) w) → Makes P (fr c vals).eval o w fun v w' => Grows w0.heap.size w w' ∧ Φs.getD k (fun _ _ => True) v w') :
    ShowG P ops Q fr X w0.heap.size (Adds w0) Φs D k o := by
  refine ⟨hput, fun c _ vals w hC hD K hK => ?_⟩
  rw [if_pos (wanted_none hg)]
  refine (h c vals w hC hD).wp fun v w' hR => ?_
  rw [hput]
  exact hK v w' hR.1 hR.2
theorem Makes.imp {ρ : Operand → Value} {w : World} {R R' : Value → World → Prop} (h : Makes P ρ o w R) (hR : ∀ v w', R v w' → R' v w') : Makes P ρ o w R' := by
  rcases h with ⟨v, w', hr, h⟩ | ⟨w', hr, h⟩ | ⟨f, args, hr, hc⟩
  · exact .inl ⟨v, w', hr, hR _ _ h⟩
  · exact .inr (.inl ⟨w', hr, hR _ _ h⟩)
  · exact .inr (.inr ⟨f, args, hr, hc.mono fun e w' ⟨v, he, h⟩ => ⟨v, he, hR _ _ h⟩⟩)
theorem showG_op (k : Nat) (hput : ∀ c vals v, (fr c vals).put o.dst v = fr c (upd vals k v)) (hg : o.guard = none)
    (h : ∀ c vals w, Adds w0 w → (∀ j, (D.getD k []).contains j = true → Φs.getD j (fun _ _ => True) (vals j) w) → Makes P (fr c vals).eval o w fun v w' => Adds w w' ∧ Φs.getD k (fun _ _ => True) v w') :
    ShowG P ops Q fr X w0.heap.size (Adds w0) Φs D k o :=
  showG_mark k hput hg fun c vals w hC hD => (h c vals w hC hD).imp fun _ _ ⟨h1, h2⟩ => ⟨.of_adds h1 hC.size, h2⟩

variable {w : World} {R : Value → World → Prop} {ρ : Operand → Value} {a : Act}
theorem makes5 {x y z t s : Operand} {X Y Z T S : Value} (hx : a.eval x = X) (hy : a.eval y = Y) (hz : a.eval z = Z) (ht : a.eval t = T) (hs : a.eval s = S) (h : ∀ ρ : Operand → Value, (∀ v, ρ (.const v) = v) → (∀ f, ρ (.func f) = .func (.func f) #[] #[]) → ρ x = X → ρ y = Y → ρ z = Z → ρ t = T → ρ s = S → Makes P ρ o w R) : Makes P a.eval o w R := h a.eval (fun _ => rfl) (fun _ => rfl) hx hy hz ht hs

/-- '[]byte("..")' of a fixed string: the row that was made is marked -/
theorem makes_mark {t e : TypeId} {x : Operand} {b n c m : Nat} {C : Array Value} {f : Nat × Nat} (hs : P.underlying t = some (.slice e)) (he : P.underlying e = some (.int .u8)) (hb : w.heap[b]? = some (Obj.cells C e f)) (hm : m ≤ b)
    (ho : o.op = .convert t t x) (hx : ρ x = .slice (some ⟨b, 0, none⟩) n c) (hR : ∀ w', Grows m w w' → R (.slice (some ⟨b, 0, none⟩) n c) w') : Makes P ρ o w fun v w' => Grows m w w' ∧ R v w' := by
  have hG : Grows m w (w.freeze ⟨b, C.size, none⟩ 1) := by
    unfold World.freeze
    rw [if_neg (by decide)]
    refine ⟨⟨rfl, rfl, rfl, by simp, fun k hk => ?_⟩, fun k C' e' f' hk => ?_⟩
    · show (w.heap.modify b _)[k]? = _
      rw [Array.getElem?_modify, if_neg (by omega)]
    · show ∃ f'', (w.heap.modify b _)[k]? = _
      rw [Array.getElem?_modify]
      split
      · rename_i h
        rw [hk]
        exact ⟨_, rfl⟩
      · exact ⟨f', hk⟩
  refine .inl ⟨.slice (some ⟨b, 0, none⟩) n c, w.freeze ⟨b, C.size, none⟩ 1, ?_, hG, hR _ hG⟩
  unfold execOp
  have hsh : w.shape? b = some (e, C.size) := by
    unfold World.shape?
    rw [hb]
  simp [ho, hx, convert, run_underlying hs, run_underlying he, markStringish, hsh]

/-- a slice that is put together -/
theorem makes_buildSlice {t e : TypeId} {len : Nat} {parts : List (Nat × Operand)} {size bytes : Nat} {C : List Value} (hu : P.underlying t = some (.slice e)) (hel : El P e size bytes)
    (hsmall : len * size ≤ 16777216) (hpos : 0 < len) (ho : o.op = .buildSlice t len parts.toArray) (hpl : parts.map (·.1) = List.range' 0 len) (hC : (parts.map fun p => (ρ p.2)).flatMap (fun v => v.cells.toList) = C) (hall : ∀ v ∈ (parts.map fun p => (ρ p.2)), v.cells.size = size)
    (hR : R (.slice (some ⟨w.heap.size, 0, none⟩) len len) (w.alloc (.cells C.toArray e))) : Makes P ρ o w R := by
  obtain ⟨z, hinfo, hzs, hsz⟩ := hel
  obtain ⟨i, hi, hz0, hsize, hby⟩ := info_parts hinfo
  subst hC
  have hlen : parts.length = len := by simpa using congrArg List.length hpl
  have hp : ¬ len * i.size = 0 := by
    rw [hsize]
    exact Nat.ne_of_gt (Nat.mul_pos hpos hsz)
  have hf := Great.fill_whole hsz (parts.map fun p => (ρ p.2)) ((Array.range (len * size)).map (z.cells[· % z.cells.size]!)) hall (by simp [hlen])
  have hz := zipIdx_of (parts.map fun p => (p.1, ρ p.2)) 0 (by simpa [Function.comp_def, hlen] using hpl)
  have hm : (parts.map fun p => (p.1, ρ p.2)).map (·.2) = parts.map fun p => (ρ p.2) := by simp [Function.comp_def]
  rw [hm] at hz
  rw [← hz] at hf
  have hrun : (Instr.buildSlice t len ((parts.map fun p => (p.1, ρ p.2)).toArray)).run P w = .ok (.slice (some ⟨w.heap.size, 0, none⟩) len len) (w.alloc (.cells ((parts.map fun p => (ρ p.2)).flatMap (fun v => v.cells.toList)).toArray e)) := by
    have hs : ¬ len * i.size > 2 ^ 24 := by rw [hsize]; omega
    rw [← hsize] at hf
    simp [Instr.buildSlice, run_underlying hu, sizeOf, typeInfo, zeroValue, hi, hz0, hs, hp, newRow]
    rw [hf]
    rfl
  refine .inl ⟨_, _, ?_, hR⟩
  unfold execOp
  simp only [ho, List.map_toArray, Sem.run_bind, Sem.run_pure, Result.andThen_ok, hrun]
end
end Go.PK
