/-
  Steps of the walk: copy of bytes into what is owned.
-/
import Derived.Test.YtejmbkljnhnklaaBld
namespace Go.PK
open Go.RowKit
section
variable {P : Program} {Q : Exit → Act → World → Prop} {ops : Array Oper} {rest : List Oper} {a : Act} {K : Act → World → Prop} {o : Oper}
variable {dst : Option Tmp} {type : TypeId} {pos : String} {after : Array Edge} {j : Nat} {want : Bool}
/-- x[lo:hi] of an array that lies at an address -/
def Sliced (P : Program) (t : TypeId) (x : Value) (lo hi mx : Option Value) (v : Value) : Prop := ∀ w, (Instr.sliceAt t x lo hi mx).run P w = .ok v w
def uaB (P : Program) (t : TypeId) (n e : Nat) : Prop := P.underlying t = some (.array n e)
theorem slice_arr {t n e : Nat} (hu : P.underlying t = some (.array n e)) (he : (P.info? e).map (·.size) = some 1) {g off : Nat} {lo hi : Option Nat} (h1 : lo.getD 0 ≤ hi.getD n) (h2 : hi.getD n ≤ n) :
    Sliced P t (.pointer (some ⟨g, off, none⟩)) (lo.map fun (k : Nat) => .int .i64 (k : Int)) (hi.map fun (k : Nat) => .int .i64 (k : Int)) none (.slice (some ⟨g, if n = lo.getD 0 then off else off + lo.getD 0, none⟩) (hi.getD n - lo.getD 0) (n - lo.getD 0)) := by
  intro w
  cases hq : P.info? e with
  | none => simp [hq] at he
  | some i =>
    have hs : i.size = 1 := by simpa [hq] using he
    have hb : (Instr.sliceBounds false n n (lo.map fun (k : Nat) => Value.int .i64 (k : Int)) (hi.map fun (k : Nat) => Value.int .i64 (k : Int)) none).run P w = .ok (lo.getD 0, hi.getD n, n) w := by
      cases lo with
      | none => cases hi with
        | none => simp [Instr.sliceBounds]
        | some h => simp at h2; simp [Instr.sliceBounds, run_sliceBound, h2]
      | some l => cases hi with
        | none => simp at h1; simp [Instr.sliceBounds, run_sliceBound, h1]
        | some h => simp at h1 h2; simp [Instr.sliceBounds, run_sliceBound, h1, h2]
    simp only [Instr.sliceAt, Sem.run_bind, run_underlying hu, Instr.sureAddr, Sem.run_pure, Result.andThen_ok, hb, sizeOf, typeInfo]
    simp [hq, hs]
    split <;> simp [Addr.add_lit]
theorem slice_arr_lo {t n e : Nat} (hu : P.underlying t = some (.array n e)) (he : (P.info? e).map (·.size) = some 1) {g off k : Nat} (h1 : k < n) :
    Sliced P t (.pointer (some ⟨g, off, none⟩)) (some (.int .i64 (k : Int))) none none (.slice (some ⟨g, off + k, none⟩) (n - k) (n - k)) := by
  have := slice_arr (P := P) hu he (g := g) (off := off) (lo := some k) (hi := none) (by simp; omega) (by simp)
  simp only [Option.map_some, Option.map_none, Option.getD_some, Option.getD_none, if_neg (show ¬ n = k by omega)] at this
  exact this
theorem slice_arr_hi {t n e : Nat} (hu : P.underlying t = some (.array n e)) (he : (P.info? e).map (·.size) = some 1) {g off h : Nat} (h1 : h ≤ n) :
    Sliced P t (.pointer (some ⟨g, off, none⟩)) none (some (.int .i64 (h : Int))) none (.slice (some ⟨g, off, none⟩) h n) := by
  have := slice_arr (P := P) hu he (g := g) (off := off) (lo := none) (hi := some h) (by simp) (by simpa using h1)
  simpa using this
theorem slice_arr_all {t n e : Nat} (hu : P.underlying t = some (.array n e)) (he : (P.info? e).map (·.size) = some 1) {g off : Nat} :
    Sliced P t (.pointer (some ⟨g, off, none⟩)) none none none (.slice (some ⟨g, off, none⟩) n n) := by
  have := slice_arr (P := P) hu he (g := g) (off := off) (lo := none) (hi := none) (by simp) (by simp)
  simpa using this
theorem gL_slice {w : World} {t : TypeId} {x : Operand} {lo hi mx : Option Operand} (h : ∃ v, Sliced P t (a.eval x) (lo.map a.eval) (hi.map a.eval) (mx.map a.eval) v ∧ wpList P ops Q rest (a.put dst v) w) :
    wpList P ops Q (Oper.mk dst (.slice t x lo hi mx) type pos after none :: rest) a w := by
  obtain ⟨v, h1, h2⟩ := h
  refine wpList_plain rfl fun K hk => ?_
  unfold Oper.wp execOp
  simp only [Sem.run_bind, Sem.run_pure, Result.andThen_ok, h1 w]
  exact hk _ _ h2
theorem _root_.Go.PK.El.one {P : Program} {e : TypeId} {b : Nat} (h : El P e 1 b) : (P.info? e).map (·.size) = some 1 := by
  obtain ⟨z, h1, -⟩ := h
  cases hq : P.info? e with
  | none => simp [hq] at h1
  | some i => simp [hq] at h1; simp [h1.2.1]
/-- x[lo:] of bytes that are read -/
theorem bytes_from {w : World} {ao : Option Addr} {n cap : Nat} {l : List UInt8} (h : Bytes w (.slice ao n cap) l) {t e : TypeId} (hu : P.underlying t = some (.slice e)) (he : (P.info? e).map (·.size) = some 1) {k : Nat} (hk : k ≤ n) :
    ∃ ao', Sliced P t (.slice ao n cap) (some (.int .i64 (k : Int))) none none (.slice ao' (n - k) (cap - k)) ∧ Bytes w (.slice ao' (n - k) (cap - k)) (l.drop k) ∧ ∀ a n' cap', (Value.slice ao' (n - k) (cap - k)) = .slice (some a) n' cap' → ∃ a0, ao = some a0 ∧ a0.block = a.block := by
  obtain ⟨e1, e2, e3⟩ := h.form
  have hsub := h.sub (lo := k) (hi := n) (mx := cap) hk (by omega) e2 (Nat.le_refl _)
  rw [List.take_of_length_le (by rw [List.length_drop]; omega)] at hsub
  cases hq : P.info? e with
  | none => simp [hq] at he
  | some i =>
    have hs : i.size = 1 := by simpa [hq] using he
    refine ⟨_, fun w => ?_, hsub, ?_⟩
    · have hb : (Instr.sliceBounds true n cap (some (.int .i64 (k : Int))) none none).run P w = .ok (k, n, cap) w := by
        simp [Instr.sliceBounds, run_sliceBound, hk]
      simp only [Instr.sliceAt, Instr.slice, Sem.run_bind, run_underlying hu, Sem.run_pure, Result.andThen_ok, hb, sizeOf, typeInfo]
      simp [hq, hs]
    · intro a n' cap' he
      split at he
      · cases he; exact ⟨_, rfl, rfl⟩
      · cases ao with
        | none => simp at he
        | some a0 =>
          refine ⟨a0, rfl, ?_⟩
          simp [Addr.add] at he
          rw [← he.1]
          split <;> rfl
/-- x[:hi] -/
theorem bytes_upto {w : World} {ao : Option Addr} {n cap : Nat} {l : List UInt8} (h : Bytes w (.slice ao n cap) l) {t e : TypeId} (hu : P.underlying t = some (.slice e)) (he : (P.info? e).map (·.size) = some 1) {k : Nat} (hk : k ≤ n) :
    Sliced P t (.slice ao n cap) none (some (.int .i64 (k : Int))) none (.slice ao k cap) ∧ Bytes w (.slice ao k cap) (l.take k) := by
  obtain ⟨e1, e2, e3⟩ := h.form
  refine ⟨fun w => ?_, h.pre (by omega) (by omega) (Nat.le_refl _)⟩
  cases hq : P.info? e with
  | none => simp [hq] at he
  | some i =>
    have hs : i.size = 1 := by simpa [hq] using he
    have hb : (Instr.sliceBounds true n cap none (some (.int .i64 (k : Int))) none).run P w = .ok (0, k, cap) w := by
      have : (k : Int) ≤ cap := by omega
      simp [Instr.sliceBounds, run_sliceBound, this]
    simp only [Instr.sliceAt, Instr.slice, Sem.run_bind, run_underlying hu, Sem.run_pure, Result.andThen_ok, hb, sizeOf, typeInfo]
    simp [hq, hs]
    intro h0
    cases ao <;> simp [Addr.add]
theorem run_copy_none {dT sT t elem : TypeId} {w : World} {g off dLen dCap : Nat} (hu : P.underlying dT = some (.slice elem)) (he : (P.info? elem).map (·.size) = some 1) :
    (Builtin.copy_ #[dT, sT] t #[.slice (some ⟨g, off, none⟩) dLen dCap, .slice none 0 0]).run P w = .ok (.int .i64 0) w := by
  cases hq : P.info? elem with
  | none => simp [hq] at he
  | some i =>
    simp [Builtin.copy_, Sem.run_bind, run_underlying hu, Builtin.lenOf, sizeOf, typeInfo, hq, Builtin.firstCells, storeCells, goInt]
variable {G : List Nat} {w0 w : World} {L : List Blk}
/-- copy(d[off:..], s): bytes that are read, into a block that is owned; the slice copied into ends where the block's cells at hand end -/
theorem Mem.wp_copy_B (hM : Mem G w0 w L) {s x : Operand} {dT sT elem : TypeId} (ho : o.op = .call { callee := .builtin .copy, args := #[s, x], argTypes := #[dT, sT] })
    (hu : P.underlying dT = some (.slice elem)) (he : (P.info? elem).map (·.size) = some 1)
    {g off dLen dCap : Nat} (hs : a.eval s = .slice (some ⟨g, off, none⟩) dLen dCap) {t : TypeId} {C : List Value} {N : Nat} {L' : List Blk} {v : Value} {l : List UInt8}
    (hx : a.eval x = v) (hv : Bytes w v l) (hfit : off + dLen ≤ C.length)
    (hb : Has L ⟨some g, t, C, N⟩ ⟨some g, t, C.take off ++ (l.take dLen).map B8 ++ C.drop (off + (l.take dLen).length), N⟩ L')
    (h : ∀ w', Mem G w0 w' L' → K (a.put o.dst (.int .i64 ((l.take dLen).length : Int))) w') : o.wp P a w K Q := by
  obtain ⟨ao, cap, rfl, e1, e2, e3, e4⟩ := hv
  cases ao with
  | none =>
    have hc := e3 rfl
    have hl : l = [] := List.eq_nil_of_length_eq_zero (by omega)
    subst hl
    subst hc
    have hrun := run_copy_none (P := P) (sT := sT) (t := o.type) (w := w) (g := g) (off := off) (dLen := dLen) (dCap := dCap) hu he
    unfold Oper.wp execOp
    simp only [ho, resolve, invoke, builtin, Sem.run_bind, Sem.run_pure, Result.andThen_ok, List.map_toArray, List.map_cons, List.map_nil, hs, hx]
    rw [show ([] : List UInt8).length = 0 from rfl, hrun]
    have : L' = L := by
      have hE : (C.take off ++ (([] : List UInt8).take dLen).map B8 ++ C.drop (off + (([] : List UInt8).take dLen).length)) = C := by simp
      rw [hE] at hb
      clear h
      generalize hB : (Blk.mk (some g) t C N) = B at hb
      have : ∀ {L L' : List Blk} {b b' : Blk}, Has L b b' L' → b = b' → L' = L := by
        intro L L' b b' h e
        induction h with
        | here => rw [e]
        | there x _ ih => rw [ih e]
      exact this hb rfl
    subst this
    have hk := h w hM
    simpa [Result.andThen, Oper.upon] using hk
  | some ad =>
    refine hM.wp_copy ho hu he hs hx ((l.take dLen).map B8) (by simp [Nat.min_comm]) (fun j u hu => ?_) (by rw [List.length_map]; exact hb) (by rw [List.length_map, List.length_take]; omega) ?_ (fun w' hm => by have := h w' hm; rwa [List.length_map])
    · have hj : j < (l.take dLen).length := by simpa using (List.getElem?_eq_some_iff.1 hu).1
      have hj' : j < l.length := by rw [List.length_take] at hj; omega
      obtain ⟨b, off', hb', -, g3⟩ := e4 j hj'
      cases hb'
      rw [Addr.add_lit, g3, ← hu, List.getElem?_map, List.getElem?_take, if_pos (by rw [List.length_take] at hj; omega), List.getElem?_eq_getElem hj', List.getD_eq_getElem?_getD, List.getElem?_eq_getElem hj']
      rfl
    · intro u hu
      obtain ⟨c, _, rfl⟩ := List.mem_map.1 hu
      rfl
theorem gL_copy_B (hM : Mem G w0 w L) {ops : Array Oper} {rest : List Oper} {s x : Operand} {dT sT : TypeId}
    (h : ∃ (elem g off dLen dCap : Nat) (t : TypeId) (C : List Value) (N : Nat) (L' : List Blk) (v : Value) (l : List UInt8), P.underlying dT = some (.slice elem) ∧ (P.info? elem).map (·.size) = some 1 ∧ a.eval s = .slice (some ⟨g, off, none⟩) dLen dCap ∧ a.eval x = v ∧ Bytes w v l ∧
      off + dLen ≤ C.length ∧ Has L ⟨some g, t, C, N⟩ ⟨some g, t, C.take off ++ (l.take dLen).map B8 ++ C.drop (off + (l.take dLen).length), N⟩ L' ∧
      ∀ w', Mem G w0 w' L' → wpList P ops Q rest (a.put dst (.int .i64 ((l.take dLen).length : Int))) w') :
    wpList P ops Q (Oper.mk dst (.call { callee := .builtin .copy, args := #[s, x], argTypes := #[dT, sT] }) type pos after none :: rest) a w :=
  let ⟨_, _, _, _, _, _, _, _, _, _, _, h1, h2, h3, h4, h5, h6, h7, h8⟩ := h; wpList_plain rfl fun _ hk => hM.wp_copy_B rfl h1 h2 h3 h4 h5 h6 h7 fun w' hm => hk _ _ (h8 w' hm)
theorem toInt64_small {x : UInt64} {k : Nat} (h : x.toNat = k) (hk : k < 9223372036854775808) : x.toInt64.toInt = (k : Int) := by
  show x.toBitVec.toInt = _
  rw [BitVec.toInt_eq_toNat_bmod]
  show (x.toNat : Int).bmod 18446744073709551616 = _
  have hx : (x.toNat : Int) % ((18446744073709551616 : Nat) : Int) = x.toNat := by omega
  rw [Int.bmod, hx, if_pos (by omega), h]
end
end Go.PK
