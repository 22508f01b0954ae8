/-
  What is owned, across a loop over an iterator: it stays where blocks turn that are no cells; a round that touched its own cells alone keeps its word.
  The walks of the chain's registers and register.
  A drawn region in which a row that was made is marked behind its last cell: cells stay, marks may come.
  The walk of the chain's quote.
  A region that draws its order, whose last operations follow all others but for one writer ahead of them, which some plain moves need not come ahead of ('x.f = append(x.f, ..)').
  The walk of the chain's Add.
  The walks of a log's Register and Quote, and of the chain's Check.
  The walks of a log's Events.
  The walk of law 16's fixed.
-/
import Derived.RangeFuncNested
import Derived.RangeFuncFrom
import Derived.RangeFuncLeaves
import Derived.RangeFuncCalls
import Derived.Shelf.Abstract
import Derived.Test.YtejmbkljnhnklaaPb
import Derived.Test.YtejmbkljnhnklaaPh
import Derived.Test.YtejmbkljnhnklaaPa
import Derived.Lib.SliceRun
namespace Go.PK
open Go.RowKit
theorem Mem.grown {G : List Nat} {w0 w w' : World} {L : List Blk} {row : Option Nat} (h : Mem G w0 w L) (hg : w.grownBy w' row)
    (hr : ∀ r, row = some r → w0.heap.size ≤ r ∧ ∃ o : Obj, w.heap[r]? = some o ∧ o.isCells = false) : Mem G w0 w' L := by
  refine ⟨⟨hg.os.trans h.touch.os, hg.tape.trans h.touch.tape, hg.output.trans h.touch.output, Nat.le_trans h.touch.size hg.size, fun k hk hkG => ?_⟩, fun b hb => (h.holds b hb).of_block fun _ he => ?_, h.own, h.nodup⟩
  · exact (hg.block k (Nat.lt_of_lt_of_le hk h.touch.size) (fun e => by have := (hr k e.symm).1; omega)).trans (h.touch.block k hk hkG)
  · have hb2 := h.holds b hb
    unfold Blk.holds at hb2
    rw [he] at hb2
    obtain ⟨J, hJ, -⟩ := hb2
    exact grownBy_keeps_cells hg (fun r e => (hr r e).2) hJ rfl
/-- what was done behind, from a world on in which some blocks are one's own -/
theorem Mem.join {G : List Nat} {w0 w w' : World} {L L' : List Blk} (h : Mem [] w0 w L) (k : Mem G w w' L') (hG : ∀ g ∈ G, w0.heap.size ≤ g) : Mem [] w0 w' L' :=
  ⟨h.touch.step k.touch fun g hg => .inr (hG g hg), k.holds, fun b hb g hg => .inr (by
    rcases k.own b hb g hg with h1 | h1
    · exact hG g h1
    · exact Nat.le_trans h.touch.size h1), k.nodup⟩
theorem Mem.belowAt {G : List Nat} {w w' : World} {L' : List Blk} (k : Mem G w w' L') {n : Nat} (hn : n ≤ w.heap.size) (hG : ∀ g ∈ G, n ≤ g) : Below n w w' :=
  ⟨k.touch.os, k.touch.tape, k.touch.output, k.touch.size, fun i hi => k.touch.block i (by omega) (fun hm => by have := hG i hm; omega)⟩
/-- blocks below n and from m on lie as they lay -/
structure Keep (n m : Nat) (A B : World) : Prop where
  os : B.os = A.os
  tape : B.tape = A.tape
  output : B.output = A.output
  size : A.heap.size ≤ B.heap.size
  block : ∀ k, k < A.heap.size → k < n ∨ m ≤ k → B.heap[k]? = A.heap[k]?
theorem Keep.refl (n m : Nat) (A : World) : Keep n m A A := ⟨rfl, rfl, rfl, Nat.le_refl _, fun _ _ _ => rfl⟩
theorem Keep.trans {n m : Nat} {A B C : World} (h : Keep n m A B) (k : Keep n m B C) : Keep n m A C :=
  ⟨k.os.trans h.os, k.tape.trans h.tape, k.output.trans h.output, Nat.le_trans h.size k.size, fun i hi hc => (k.block i (Nat.lt_of_lt_of_le hi h.size) hc).trans (h.block i hi hc)⟩
theorem Keep.weak {n m m' : Nat} {A B : World} (h : Keep n m A B) (hm : m ≤ m') : Keep n m' A B :=
  ⟨h.os, h.tape, h.output, h.size, fun k hk hc => h.block k hk (hc.imp id (Nat.le_trans hm))⟩
theorem Keep.of_touch {G : List Nat} {n m : Nat} {A B : World} (h : Touch G A B) (hG : ∀ g ∈ G, n ≤ g ∧ g < m) : Keep n m A B :=
  ⟨h.os, h.tape, h.output, h.size, fun k hk hc => h.block k hk fun hm => by have := hG k hm; omega⟩
theorem Keep.putObj {n m l : Nat} {A : World} (o : Obj) (h1 : n ≤ l) (h2 : l < m) : Keep n m A (A.putObj l o) :=
  have g := grownBy_putObj' A l o
  ⟨g.os, g.tape, g.output, g.size, fun k hk hc => g.block k hk (fun e => by cases e; omega)⟩
/-- an iterator that hands out xs; its rounds keep what lies below n and what was laid since it was called -/
def Iter (P : Program) (gf : Nat) (lb : Array Value) {α : Type} (encs : α → Array Value) (xs : List α) (n : Nat) (w : World) : Prop :=
  ∀ (l : Nat) (J : Nat → World → Prop) (W : World), Below w.heap.size w W →
    (∀ k A B, J k A → Below W.heap.size A B → J k B) →
    (∀ k x A, xs[k]? = some x → J k A → YieldAt Fence.wide 1 P l (encs x) A fun e B => e = .returned (.bool true) ∧ J (k + 1) B ∧ Keep n W.heap.size A B) →
    J 0 W → Calls P gf (#[.func (.yield l) #[] #[]] ++ lb) W fun e B => (∃ v, e = .returned v) ∧ J xs.length B
theorem below_same {m l : Nat} {A B : World} {o : Obj} (h : Below m A B) (hl : A.heap[l]? = some o) (hm : l < m) : B.heap[l]? = some o := (h.block l hm).trans hl
theorem below_putObj {m l : Nat} {A : World} (o : Obj) (h : m ≤ l) : Below m A (A.putObj l o) :=
  have g := grownBy_putObj' A l o
  ⟨g.os, g.tape, g.output, g.size, fun _ _ => World.putObj_heap_other (by omega)⟩
/-- a range over such an iterator -/
theorem wp_rangeFunc_iter {P : Program} {α : Type} {g : Operand} {ps : Array Tmp} {assign body : Code} {Q : Exit → Act → World → Prop} {a : Act} {w : World}
    {gf : Nat} {lb : Array Value} (hg : a.eval g = .func (.func gf) #[] lb) (eg : ∀ args w, (callFunc gf args).run P w = .ok (.enter gf args) w)
    {encs : α → Array Value} {xs : List α} {n : Nat} {w0 : World} (hseq : Iter P gf lb encs xs n w0) (hb0 : Below w0.heap.size w0 w) (hps : ∀ x, (encs x).size = ps.size) (hn : n ≤ w.heap.size)
    (I : Nat → World → Prop) (hI : ∀ k A B, I k A → Below w.heap.size A B → I k B) (h0 : I 0 w)
    (hround : ∀ l k x W, w.heap.size ≤ l → xs[k]? = some x → I k W → assign.wpIn (Fence.wide.inRound l) 1 P (Exit.then (fun a1 W2 => Keep n w.heap.size W W2 ∧
        ∀ W3, W2.grownBy W3 (some l) → (∃ o : Obj, W2.heap[l]? = some o ∧ o.isCells = false) → body.wpIn (Fence.wide.inRound l) 1 P (fun e _ W' => e = .normal ∧ Keep n w.heap.size W3 W' ∧ I (k + 1) W') a1 W3) (fun _ _ _ => False))
      { tmps := (ps.zip (encs x)).foldl (fun t (p, v) => t.setIfInBounds p v) a.tmps, defers := [] } W)
    (hdone : ∀ (D : Nat) (W : World), w.heap.size ≤ D → I xs.length W → W.heap[D]? = some (.deferred (some [])) → Q .normal { a with defers := { target := .collected D, args := #[] } :: a.defers } W) :
    (Code.rangeFunc g ps assign body).wpIn Fence.wide 2 P Q a w := by
  refine wpIn_rangeFunc fun fn hfn => ?_
  rw [show Fence.wide.round = none from rfl]
  obtain ⟨rec, hrec⟩ : ∃ rec : LoopState → Option Code → Loop, rec = fun st pe => { state := st, pending := pe, fn, tmps := a.tmps, params := ps, assign, body, defers := w.heap.size } := ⟨_, rfl⟩
  obtain ⟨W1, hW1⟩ : ∃ W1, (w.alloc (.deferred (some []))).alloc (.loop (rec .ready none)) = W1 := ⟨_, rfl⟩
  have hsz : W1.heap.size = w.heap.size + 2 := by rw [← hW1, World.size_alloc, World.size_alloc]
  have hL1 : W1.heap[w.heap.size + 1]? = some (.loop (rec .ready none)) := by
    rw [← hW1]
    have := World.alloc_heap_new (w.alloc (.deferred (some []))) (.loop (rec .ready none))
    rwa [World.size_alloc] at this
  have hD1 : W1.heap[w.heap.size]? = some (.deferred (some [])) := by
    rw [← hW1]
    exact (Below.heap_alloc _ _ _ (by simp)).trans (World.alloc_heap_new w _)
  have hB1 : Below w.heap.size w W1 := by
    rw [← hW1]
    exact ((Below.refl _ w).alloc (Nat.le_refl _) _).alloc (by simp) _
  refine ⟨w.heap.size + 1, [{ target := .collected w.heap.size, args := #[] }], W1, { target := .fn (.func gf) lb, args := #[.func (.yield (w.heap.size + 1)) #[] #[]] }, W1, gf,
    #[.func (.yield (w.heap.size + 1)) #[] #[]] ++ lb, W1, ?_, ?_, fun _ _ => trivial, ?_, fun h => (by cases h), ?_⟩
  · rw [← hW1, hrec]
    exact run_enterLoop_outer _ _ _ _ _
  · simp only [resolve, hg]
    simp [go_sem]
  · simp [invoke, go_sem, eg]
  · refine callsIn_wide.2 ((hseq (w.heap.size + 1)
      (fun k W => I k W ∧ W.heap[w.heap.size + 1]? = some (.loop (rec .ready none)) ∧ W.heap[w.heap.size]? = some (.deferred (some [])))
      W1 (hb0.trans (hB1.mono hb0.size)) (fun k A B hs hB => ⟨hI k A B hs.1 (hB.mono (by omega)), below_same hB hs.2.1 (by omega), below_same hB hs.2.2 (by omega)⟩) ?_
      ⟨hI 0 w W1 h0 hB1, hL1, hD1⟩).mono ?_)
    · rintro k x W hx ⟨hi, hl, hd⟩
      have hy := run_yield (P := P) (args := encs x) hl (by rw [hrec]; exact hps x)
      rw [hrec] at hy
      refine ⟨fn, _, assign, body, hy, roundIn_of_wpIn hfn (wpIn_mono (hround (w.heap.size + 1) k x W (by omega) hx hi) ?_)⟩
      rintro e a1 W2 h
      cases e with
      | normal =>
        obtain ⟨hk, hbody⟩ := h
        have hlt : w.heap.size + 1 < W.heap.size := (Array.getElem?_eq_some_iff.1 hl).1
        have hl2 : W2.heap[w.heap.size + 1]? = some (.loop (rec .ready none)) := (hk.block _ hlt (.inr (by omega))).trans hl
        have hd2 : W2.heap[w.heap.size]? = some (.deferred (some [])) := (hk.block _ (by omega) (.inr (by omega))).trans hd
        have hlt2 : w.heap.size + 1 < W2.heap.size := (Array.getElem?_eq_some_iff.1 hl2).1
        refine ⟨_, run_beginRound hl2 (by rw [hrec]), wpIn_mono (hbody _ (grownBy_putObj' _ _ _) ⟨_, hl2, rfl⟩) ?_⟩
        rintro e a3 W' ⟨rfl, hk3, hi3⟩
        have hl3 : W'.heap[w.heap.size + 1]? = some (.loop { rec .ready none with state := .busy }) :=
          (hk3.block _ (Nat.lt_of_lt_of_le hlt2 (grownBy_putObj' _ _ _).size) (.inr (by omega))).trans (World.putObj_heap_same hlt2)
        have hd3 : W'.heap[w.heap.size]? = some (.deferred (some [])) :=
          (hk3.block _ (Nat.lt_of_lt_of_le (by omega) (grownBy_putObj' _ _ _).size) (.inr (by omega))).trans ((World.putObj_heap_other (by omega)).trans hd2)
        have he := run_endRound (P := P) none hl3
        refine ⟨_, _, he, rfl, ⟨hI _ _ _ hi3 (below_putObj _ (by omega)), ?_, (World.putObj_heap_other (by omega)).trans hd3⟩, ?_⟩
        · rw [hrec]
          exact World.putObj_heap_same (Array.getElem?_eq_some_iff.1 hl3).1
        · refine (((hk.weak (by omega)).trans (Keep.putObj _ (by omega) (by omega))).trans (hk3.weak (by omega))).trans (Keep.putObj _ (by omega) (by omega))
      | ret => exact h.elim
      | exit id => exact h.elim
      | goto t => exact h.elim
      | panic ch => exact h.elim
      | outgrown => exact h.elim
    · rintro e W2 ⟨⟨v, rfl⟩, hi, hl, hd⟩
      refine ⟨none, _, by have := run_endLoop (P := P) hl (by rw [hrec]; simp); rw [hrec] at this; exact this, hdone _ _ (Nat.le_refl _) (hI _ _ _ hi (below_putObj _ (by omega))) ((World.putObj_heap_other (by omega)).trans hd)⟩
/-! operations under a fence -/
section
variable {F : Fence} {n : Nat} {P : Program} {ops : Array Oper} {Q : Exit → Act → World → Prop} {a : Act} {w w0 : World} {rest : List Oper} {dst : Option Tmp} {type : TypeId} {pos : String} {after : Array Edge} {G : List Nat} {L : List Blk}
theorem gI_load {ty : TypeId} {x : Operand} (h : ∃ ad v, a.eval x = .pointer (some ad) ∧ Loads P w ty ad v ∧ wpListIn F n P ops Q rest (a.put dst v) w) :
    wpListIn F n P ops Q (Oper.mk dst (.load ty x) type pos after none :: rest) a w := by
  obtain ⟨ad, v, hx, h, hK⟩ := h
  refine wpListIn_plain rfl fun _ hk => ⟨fun f hf => (by cases hf), ?_⟩
  rw [Oper.semAt_eq _ _ _ (fun c h => by cases h)]
  unfold execOp
  unfold Loads at h
  simp only [hx, Instr.loadAt, Instr.sureAddr, Sem.run_bind, Sem.run_pure, Result.andThen_ok, h]
  exact hk _ _ hK
theorem gI_store (_hM : Mem G w0 w L) {ty : TypeId} {x y : Operand} (h : ∃ ad v L', a.eval x = .pointer (some ad) ∧ a.eval y = v ∧ Stores P G w0 w ty ad v L' ∧ ∀ w', Mem G w0 w' L' → wpListIn F n P ops Q rest (a.put dst undef) w') :
    wpListIn F n P ops Q (Oper.mk dst (.store ty x y) type pos after none :: rest) a w := by
  obtain ⟨ad, v, L', hx, hy, ⟨w', hr, hM'⟩, hK⟩ := h
  refine wpListIn_plain rfl fun _ hk => ⟨fun f hf => (by cases hf), ?_⟩
  rw [Oper.semAt_eq _ _ _ (fun c h => by cases h)]
  unfold execOp
  simp only [hx, hy, Instr.storeAt, Instr.sureAddr, Sem.run_bind, Sem.run_pure, Result.andThen_ok, hr]
  exact hk _ _ (hK _ hM')
theorem gI_alloc (hM : Mem G w0 w L) {ty : TypeId} (h : ∃ C k, Zr P ty C k ∧ ∀ g w', Mem G w0 w' (⟨some g, ty, C, k⟩ :: L) → wpListIn F n P ops Q rest (a.put dst (.pointer (some ⟨g, 0, none⟩))) w') :
    wpListIn F n P ops Q (Oper.mk dst (.alloc ty) type pos after none :: rest) a w := by
  refine wpListIn_plain rfl fun _ hk => ⟨fun f hf => (by cases hf), ?_⟩
  rw [Oper.semAt_eq _ _ _ (fun c h => by cases h)]
  unfold execOp
  obtain ⟨C, k, ⟨z, hz, hC, rfl⟩, hK⟩ := h
  simp only [Sem.run_bind, Sem.run_pure, Result.andThen_ok, run_alloc_of hz hC]
  exact hk _ _ (hK _ _ (hM.alloc C ty))
end
end Go.PK

namespace Go.PK
open Go.RowKit
theorem Mem.of_holds {g : Nat} {t : TypeId} {C : List Value} {N : Nat} {w : World} (h : (Blk.mk (some g) t C N).holds w) : Mem [g] w w [⟨some g, t, C, N⟩] :=
  ⟨Touch.refl _ _, fun b hb => by simp at hb; subst hb; exact h, fun b hb k hk => by simp at hb; subst hb; cases hk; exact .inl (by simp), by simp⟩
theorem Blk.holds.keep {g : Nat} {t : TypeId} {C : List Value} {N n m : Nat} {w w' : World} (h : (Blk.mk (some g) t C N).holds w) (hk : Keep n m w w') (hm : m ≤ g) : (Blk.mk (some g) t C N).holds w' :=
  h.of_block fun _ hg => by cases hg; exact hk.block _ (h.lt rfl) (.inr hm)
theorem Keep.below {n m : Nat} {A B : World} (h : Keep n m A B) (hn : n ≤ A.heap.size) : Below n A B := ⟨h.os, h.tape, h.output, h.size, fun k hk => h.block k (by omega) (.inl hk)⟩
theorem Touch.belowAt {G : List Nat} {n : Nat} {A B : World} (h : Touch G A B) (hn : n ≤ A.heap.size) (hG : ∀ g ∈ G, n ≤ g) : Below n A B :=
  ⟨h.os, h.tape, h.output, h.size, fun i hi => h.block i (by omega) (fun hm => by have := hG i hm; omega)⟩
theorem Mem.beyond {w0 A B : World} {L : List Blk} {m : Nat} (h : Mem [] w0 A L) (hb : Below m A B) (h0 : w0.heap.size ≤ m) (hL : ∀ b ∈ L, ∀ g, b.id = some g → g < m) : Mem [] w0 B L :=
  ⟨⟨hb.os.trans h.touch.os, hb.tape.trans h.touch.tape, hb.output.trans h.touch.output, Nat.le_trans h.touch.size hb.size, fun k hk hg => (hb.block k (by omega)).trans (h.touch.block k hk hg)⟩,
    fun b hbL => (h.holds b hbL).of_block fun g hg => hb.block g (hL b hbL g hg), h.own, h.nodup⟩
theorem Blk.holds.grown {b : Blk} {w w' : World} {row : Option Nat} (h : b.holds w) (hg : w.grownBy w' row) (hr : ∀ r, row = some r → ∃ o : Obj, w.heap[r]? = some o ∧ o.isCells = false) : b.holds w' :=
  h.of_block fun g he => by
    unfold Blk.holds at h
    rw [he] at h
    obtain ⟨J, hJ, -⟩ := h
    exact grownBy_keeps_cells hg hr hJ rfl
namespace Chain
/-- each event with the register behind it -/
def regs (l : List Ev) : List (Ev × List UInt8) := (List.range l.length).map fun k => (l.getD k ([], 0), regK l (k + 1))
theorem regs_len (l : List Ev) : (regs l).length = l.length := by simp [regs]
theorem regs_at {l : List Ev} {k : Nat} {e : Ev} (h : l[k]? = some e) : (regs l)[k]? = some (e, regK l (k + 1)) := by
  have hk := (List.getElem?_eq_some_iff.1 h).1
  rw [regs, List.getElem?_map, List.getElem?_range hk, Option.map_some, List.getD_eq_getElem?_getD, h]
  rfl
theorem regs_get {l : List Ev} {k : Nat} {y : Ev × List UInt8} (h : (regs l)[k]? = some y) : l[k]? = some y.1 ∧ y.2 = regK l (k + 1) := by
  have hk : k < l.length := by rw [← regs_len]; exact (List.getElem?_eq_some_iff.1 h).1
  rw [regs_at (List.getElem?_eq_getElem hk)] at h
  cases h
  exact ⟨List.getElem?_eq_getElem hk, rfl⟩
end Chain
end Go.PK
namespace Go.Proofs.Ytejmbkljnhnklaa
open Go.RowKit Go.PK Go.Shelf
theorem evC_one (e : Ev) : ∀ v ∈ evC e, v.oneCell' = true := by
  intro v hv
  rcases List.mem_append.1 hv with h | h
  · obtain ⟨b, _, rfl⟩ := List.mem_map.1 h
    rfl
  · simp at h
    subst h
    rfl
/-- what is handed to a round -/
def encR (y : Ev × List UInt8) : Array Value := #[.agg (evC y.1).toArray, .agg (y.2.map B8).toArray]
set_option maxRecDepth 100000 in
set_option maxHeartbeats 4000000 in
theorem chain_registers (w0 : World) (v : Value) (hv : v.cells = #[v]) : Calls Try.prog 91 #[v] w0 fun e w' => ∃ B, e = .returned (.func (.func 98) #[] #[.pointer (some ⟨B, 0, none⟩)]) ∧ Mem [] w0 w' [⟨some B, 58, [v], 1⟩] := by
  have hM := Mem.start w0
  go_enter Try.func91, Try.ntmps91
  go_wp2_with (first | ((with_reducible refine gL_box (dst := some 1) hM ?_); refine ⟨_, [v], 1, rfl, hv, rfl, ?_⟩; intro g1 _ hM2; clear hM; have hM := hM2; clear hM2))
  go_ret
  exact ⟨_, rfl, hM⟩
set_option maxRecDepth 100000 in
set_option maxHeartbeats 4000000 in
theorem registers_iter (w00 : World) (ao : Option Addr) (cap : Nat) (l : List Ev) (hE : Elems rEv w00 ao l) (hlen : l.length ≤ 140737488355000) (w : World) (B : Nat) (hw : Below w00.heap.size w00 w)
    (hldB : ∀ w', Below w.heap.size w w' → Loads Try.prog w' 58 ⟨B, 0, none⟩ (.slice ao l.length cap)) :
    Iter Try.prog 98 #[.pointer (some ⟨B, 0, none⟩)] encR (Chain.regs l) w00.heap.size w := by
  intro y J W hW hJ hY h0
  rw [show (#[.func (.yield y) #[] #[]] ++ #[.pointer (some ⟨B, 0, none⟩)] : Array Value) = #[.func (.yield y) #[] #[], .pointer (some ⟨B, 0, none⟩)] from rfl]
  rw [Chain.regs_len]
  have hat : ∀ w, Adds w00 w → ∀ k, k < l.length → _ := fun w hw k hk => ev_at (hE.adds hw) (k := k) hk
  have hY2 : ∀ k e A, l[k]? = some e → J k A → _ := fun k e A he hj => hY k _ A (Chain.regs_at he) hj
  clear hY hE
  have hwW : Below w00.heap.size w00 W := hw.trans (hW.mono hw.size)
  have hldW : ∀ w', Below W.heap.size W w' → _ := fun w' hb => hldB w' (hW.trans (hb.mono hW.size))
  clear hldB hW hw
  obtain ⟨n, hn⟩ : ∃ n, n = l.length := ⟨_, rfl⟩
  rw [← hn] at hat hlen hldW ⊢
  clear hn
  have hM := Mem.start W
  go_enter Try.func98, Try.ntmps98
  go_wp2_with (first | ((first | ((with_reducible refine gL_alloc (dst := some 3) hM ?_); refine ⟨_, _, (zr_of rfl), ?_⟩) | ((with_reducible refine gL_box (dst := some 3) hM ?_); refine ⟨_, _, _, rfl, rfl, (by first | assumption | exact Len.map (by assumption) _ | rfl | exact Len.map (by rfl) _ | exact Len.of (by simp; done)), ?_⟩)); intro g3 _ hM2; clear hM; have hM := hM2; clear hM2) | ((with_reducible refine gL_load (dst := some 6) ?_); refine ⟨_, _, rfl, hldW _ hM.done, ?_⟩))
  have hg3 : W.heap.size ≤ g3 := (hM.own _ (.head _) _ rfl).resolve_left (by simp)
  have hJ0 := hJ 0 W _ h0 hM.done
  have hB0 := hwW.trans (hM.done.mono hwW.size)
  have hH := hM.holds _ (.head _)
  have hs0 := hM.done.size
  rw [show List.replicate 32 (0 : UInt8) = Chain.regK l 0 from rfl] at hH
  clear hM hldW
  go_loopw [8] (fun i wr => ∃ (j : Nat), j ≤ n ∧ i = .int .i64 j ∧ Below w00.heap.size w00 wr ∧ W.heap.size ≤ wr.heap.size ∧ (Blk.mk (some g3) 24 ((Chain.regK l j).map B8) 32).holds wr ∧ J j wr) (fun i _ => n - (intOf i).toNat)
  case atStart => exact ⟨0, by omega, rfl, hB0, hs0, hH, hJ0⟩
  case round =>
    clear hB0 hH hJ0 hs0 h0
    obtain ⟨j, hj, rfl, hB, hsz, hH, hJj⟩ := hrel
    by_cases hlt : j < n
    · have hti : (j : Int) < (n : Int) := by omega
      obtain ⟨b, off, e, rfl, hje, hel, hld⟩ := hat _ hB j hlt
      clear hat
      have hM := Mem.of_holds hH
      have hJn : ∀ A, PK.Touch [g3] wr A → J j A := fun A hA => hJ j wr A hJj (hA.belowAt hsz (by simp; omega))
      have hBn : ∀ A, PK.Touch [g3] wr A → Below w00.heap.size w00 A := fun A hA => hB.trans (hA.belowAt hB.size (by have := hwW.size; simp; omega))
      have hY3 : ∀ A, PK.Touch [g3] wr A → _ := fun A hA => hY2 j e A hje (hJn A hA)
      have hext0 := Chain.regK_succ l j e hje
      clear hJn hY2 hje hJj hH hB
      have hl3 : Len (Chain.regK l j) 32 := Len.of (Chain.regK_len _ _)
      have hl4 : Len (Chain.regK l (j + 1)) 32 := Len.of (Chain.regK_len _ _)
      obtain ⟨M, hMM⟩ : ∃ M, Chain.meas e = M := ⟨_, rfl⟩
      have hMl : Len M 32 := by rw [← hMM]; exact Len.of (Chain.meas_len _)
      have hme : ∀ w, _ := fun w => chain_Measure w e hel M hMM
      rw [hMM] at hext0
      clear hMM
      have hext : ∀ w, _ := fun w => chain_Extend w (Chain.regK l j) M hl3 hMl _ hext0.symm
      clear hext0
      obtain ⟨A2, hA2⟩ : ∃ A2, A2 = Chain.regK l (j + 1) := ⟨_, rfl⟩
      rw [← hA2] at hext hl4 hY3
      have HA2 : ∀ _ : Unit, A2 = Chain.regK l (j + 1) := fun _ => hA2
      clear hA2
      generalize Chain.regK l j = A at *
      have hcl := evC_len hel
      have hco := evC_one e
      dsimp only [encR] at hY3
      generalize evC e = C at *
      go_wp2_with (first
        | ((with_reducible refine gL_load (dst := some 11) ?_); refine ⟨_, _, rfl, hld, ?_⟩)
        | ((first | ((with_reducible refine gL_alloc (dst := some 5) hM ?_); refine ⟨_, _, (zr_of rfl), ?_⟩) | ((with_reducible refine gL_box (dst := some 5) hM ?_); refine ⟨_, _, _, rfl, rfl, (by first | assumption | exact Len.map (by assumption) _ | rfl | exact Len.map (by rfl) _ | exact Len.of (by simp; done)), ?_⟩)); intro g5 _ hM2; clear hM; have hM := hM2; clear hM2)
        | ((with_reducible refine gL_store hM ?_); refine ⟨_, _, _, rfl, rfl, hM.stores_all (by (repeat (first | exact .here _ _ _ | apply Has.there)); done) (ag_of rfl) hcl (by rfl) hco, ?_⟩; intro _ hM2; clear hM; have hM := hM2; clear hM2))
      rename_i w5 K2 hK2
      try simp only [Act.put, List.setIfInBounds_toArray, List.set_cons_succ, List.set_cons_zero]
      refine wp_region_tail 4 (by decide) (fun c vals => ⟨#[c 0, c 1, c 2, (Value.pointer (some ⟨g3, 0, none⟩) : Value), c 4, (Value.pointer (some ⟨g5, 0, none⟩) : Value), c 6, c 7, c 8, c 9, c 10, c 11, vals 0, vals 1, vals 2, vals 3, c 16, c 17, c 18, c 19, c 20, c 21], []⟩) (fun t => [_, _, _, undef, _, undef, _, _, _, _, _, _, undef, undef, undef, undef, _, _, _, _, _, _].getD t undef) (fun i => [_, _, _, _].getD i undef) (by kernel_rfl)
        [[], [], [1], [0, 1, 2], [0, 1, 2, 3]] (by kernel_rfl) (by kernel_rfl) (fun _ => True) trivial
        [fun x _ => x = (Value.agg (A.map B8).toArray : Value),
         fun x _ => x = (Value.agg C.toArray : Value),
         fun x _ => x = (Value.agg (M.map B8).toArray : Value),
         fun x _ => x = (Value.agg (A2.map B8).toArray : Value)]
        ⟨fun _ _ _ h _ => h, fun _ _ _ h _ => h, fun _ _ _ h _ => h, fun _ _ _ h _ => h, trivial⟩ []
        ⟨?_, ?_, ?_, ?_, trivial⟩ ?_
      · refine showA_op 0 (by intro _ _ _; kernel_rfl) rfl rfl (fun c vals w hC hD => ?_)
        clear hD
        refine makes1 (x := .tmp 3) (X := Value.pointer (some ⟨g3, 0, none⟩)) (by kernel_rfl : _ = (Value.pointer (some ⟨g3, 0, none⟩) : Value)) (fun ρ rc rf q3 => ?_)
        exact makes_load ((hM.adds hC).loads_all (.tail _ (.head _)) (ag_of rfl) (hl3.map _)) rfl q3 ⟨Adds.refl _, rfl⟩
      · refine showA_op 1 (by intro _ _ _; kernel_rfl) rfl rfl (fun c vals w hC hD => ?_)
        clear hD
        refine makes1 (x := .tmp 5) (X := Value.pointer (some ⟨g5, 0, none⟩)) (by kernel_rfl : _ = (Value.pointer (some ⟨g5, 0, none⟩) : Value)) (fun ρ rc rf q5 => ?_)
        exact makes_load ((hM.adds hC).loads_all (.head _) (ag_of rfl) hcl) rfl q5 ⟨Adds.refl _, rfl⟩
      · refine showA_op 2 (by intro _ _ _; kernel_rfl) rfl rfl (fun c vals w hC hD => ?_)
        have h1 : vals 1 = .agg C.toArray := hD 1 rfl
        clear hD
        refine makes1 (x := .tmp 13) (X := Value.agg C.toArray) ((by kernel_rfl : _ = vals 1).trans h1) (fun ρ rc rf q13 => ?_)
        clear h1
        refine makes_call (hme _) ?_ (by rintro e w' ⟨rfl, hb⟩; exact ⟨_, rfl, hb, rfl⟩)
        go_simp
      · refine showA_op 3 (by intro _ _ _; kernel_rfl) rfl rfl (fun c vals w hC hD => ?_)
        have h0 : vals 0 = .agg (A.map B8).toArray := hD 0 rfl
        have h2 : vals 2 = .agg (M.map B8).toArray := hD 2 rfl
        clear hD
        refine makes2 (x := .tmp 12) (X := Value.agg (A.map B8).toArray) (y := .tmp 14) (Y := Value.agg (M.map B8).toArray) ((by kernel_rfl : _ = vals 0).trans h0) ((by kernel_rfl : _ = vals 2).trans h2) (fun ρ rc rf q12 q14 => ?_)
        clear h0 h2
        refine makes_call (hext _) ?_ (by rintro e w' ⟨rfl, hb⟩; exact ⟨_, rfl, hb, rfl⟩)
        go_simp
      intro vals w' hC hΦ hne
      have h3 : vals 3 = .agg (A2.map B8).toArray := hΦ 3 (by decide)
      clear hΦ hne
      simp only [List.getD_eq_getElem?_getD, List.getElem?_cons_zero, List.getElem?_cons_succ, Option.getD_some, List.drop_succ_cons, List.drop_zero]
      simp only [h3]
      clear h3
      try simp only [tuple_undef]
      replace hM := hM.adds hC
      clear hC

      refine gL_store hM ⟨_, _, _, rfl, rfl, hM.stores_all (.there _ (.here _ _ _)) (ag_of rfl) (hl4.map _) (hl3.map _) B8_one, ?_⟩
      intro w6 hM2
      obtain ⟨fn, tmps, assign, body, hy, hR⟩ := hY3 w6 hM2.touch
      clear hM
      have hM := hM2
      clear hM2 hY3
      refine wpList_nil (hK2 _ _ ((wpIn_wide (n := 2)).1 ?_))
      gi_wp2_with (first
        | ((with_reducible refine gI_load (dst := some 17) ?_); refine ⟨_, _, rfl, hM.loads_all (.head _) (ag_of rfl) hcl, ?_⟩)
        | ((with_reducible refine gI_load (dst := some 18) ?_); refine ⟨_, _, rfl, hM.loads_all (.tail _ (.head _)) (ag_of rfl) (hl4.map _), ?_⟩))
      refine hR.mono ?_
      rintro _ w7 ⟨rfl, hJ7, hk7⟩
      have hB7 := (hBn _ hM.touch).trans (hk7.below (hBn _ hM.touch).size)
      have hsz7 := Nat.le_trans (Nat.le_trans hsz hM.touch.size) hk7.size
      have hH7 := (hM.holds _ (.tail _ (.head _))).keep hk7 hg3
      rw [HA2 ()] at hH7
      clear hM hk7 hR hy hBn
      gi_wp2
      go_wp2_with fail
      go_roundw
      case rel => exact ⟨j + 1, by omega, by go_num, hB7, hsz7, hH7, hJ7⟩
      case measure => simp [intOf]; omega
    · have hje : j = n := by omega
      rw [hje] at hJj
      go_wp2_with fail
      go_end0
      exact ⟨⟨_, rfl⟩, hJj⟩
set_option maxRecDepth 100000 in
set_option maxHeartbeats 4000000 in
theorem chain_register (w0 : World) (ao : Option Addr) (cap : Nat) (l : List Ev) (hE : Elems rEv w0 ao l) (hlen : l.length ≤ 140737488355000) (T : List UInt8) (hT : Chain.reg l = T) :
    Calls Try.prog 72 #[.slice ao l.length cap] w0 fun x w' => x = .returned (.agg (T.map B8).toArray) ∧ Below w0.heap.size w0 w' := by
  have hTl : Len T 32 := by rw [← hT]; exact Len.of (Chain.reg_len _)
  have HT : ∀ _ : Unit, Chain.regK l l.length = T := fun _ => by rw [← hT, Chain.regK, List.take_length]
  clear hT
  have hit : ∀ w B, Below w0.heap.size w0 w → _ := fun w B hw => registers_iter w0 ao cap l hE hlen w B hw
  have hget : ∀ k y, (Chain.regs l)[k]? = some y → y.2 = Chain.regK l (k + 1) := fun k y h => (Chain.regs_get h).2
  have hrl := Chain.regs_len l
  generalize Chain.regs l = R at *
  have hM := Mem.start w0
  refine (callsIn_wide (n := 2)).1 (callsIn_of_wp_marks Try.func72 rfl trivial ?_)
  simp only [Try.ntmps72, List.size_toArray, List.length_cons, List.length_nil, Nat.reduceAdd, Nat.reduceSub, Array.replicate_succ, Array.replicate_zero, List.push_toArray, List.append_toArray, List.nil_append, List.cons_append]
  refine wpIn_wide.2 ?_
  go_wp2_with (first
    | ((first | ((with_reducible refine gL_alloc (dst := some 2) hM ?_); refine ⟨_, _, (zr_of rfl), ?_⟩) | ((with_reducible refine gL_box (dst := some 2) hM ?_); refine ⟨_, _, _, rfl, rfl, (by first | assumption | exact Len.map (by assumption) _ | rfl | exact Len.map (by rfl) _ | exact Len.of (by simp; done)), ?_⟩)); intro g2 _ hM2; clear hM; have hM := hM2; clear hM2)
    | (go_at_call 91; (with_reducible refine (chain_registers _ _ rfl).mono ?_); rintro _ w2 ⟨B, rfl, hM3⟩; replace hM := hM.addNew hM3.done (hM3.holds _ (.head _)) (hM3.mem_new (.head _)); clear hM3))
  have hzr : List.replicate 32 (0 : UInt8) = Chain.regK l 0 := rfl
  rw [hzr] at hM
  clear hzr
  have hldB : ∀ w', Below w2.heap.size w2 w' → Loads Try.prog w' 58 ⟨B, 0, none⟩ (.slice ao l.length cap) := fun w' hb => (hM.adds hb).loads_one (.head _) (on_of rfl) rfl
  have hit2 := hit w2 B hM.done hldB
  have hlt2 : g2 < w2.heap.size := (hM.holds _ (.tail _ (.head _))).lt rfl
  have hg2 : w0.heap.size ≤ g2 := (hM.own _ (.tail _ (.head _)) _ rfl).resolve_left (by simp)
  replace hM := hM.drop
  clear hldB hit
  refine (wpIn_wide (n := 2)).1 (wp_rangeFunc_iter (gf := 98) (lb := #[.pointer (some ⟨B, 0, none⟩)]) rfl (enters_of Try.func98 (by kernel_rfl) rfl) hit2 (Below.refl _ _) (fun _ => rfl) hM.done.size
    (fun k W => Mem [] w0 W [⟨some g2, 24, (Chain.regK l k).map B8, 32⟩]) ?_ hM ?_ ?_)
  · intro k A B hA hAB
    exact hA.beyond hAB hM.done.size (fun b hb g hg => by simp at hb; subst hb; cases hg; exact hlt2)
  · intro l1 k y W hl1 hy hMW
    have hln : Len ((Chain.regK l k)) 32 := Len.of (Chain.regK_len _ _)
    have hln2 : Len ((Chain.regK l (k + 1))) 32 := Len.of (Chain.regK_len _ _)
    have hy2 := hget k y hy
    obtain ⟨C1, hC1⟩ : ∃ C, C = evC y.1 := ⟨_, rfl⟩
    have he : encR y = #[.agg C1.toArray, .agg ((Chain.regK l (k + 1)).map B8).toArray] := by rw [encR, hC1, hy2]
    rw [he]
    have h2 := hMW.holds _ (.head _)
    have hM1 := Mem.of_holds h2
    have hM0 := hM.done
    clear hM he hC1 hy hy2 hit2 hget
    go_simp
    gi_wp2_with (first
      | ((with_reducible refine gI_alloc hM1 ?_); refine ⟨_, _, (zr_of rfl), ?_⟩; intro g4 _ hM2; clear hM1; have hM1 := hM2; clear hM2)
      | ((with_reducible refine gI_store hM1 ?_); refine ⟨_, _, _, rfl, rfl, hM1.stores_all (.here _ _ _) (ag_of rfl) (hln2.map _) (by rfl) B8_one, ?_⟩; intro _ hM2; clear hM1; have hM1 := hM2; clear hM2))
    refine ⟨Keep.of_touch hM1.touch (fun g hg => by simp at hg; subst hg; exact ⟨hg2, hlt2⟩), fun W3 hg3 o3 ho3 hc3 => ?_⟩
    have hH4 := (hM1.holds _ (.head _)).grown hg3 (fun r e => by cases e; exact ⟨o3, ho3, hc3⟩)
    have hH2 := (hM1.holds _ (.tail _ (.head _))).grown hg3 (fun r e => by cases e; exact ⟨o3, ho3, hc3⟩)
    have hMJ := hMW.join hM1 (by simp; exact hg2)
    have hMG := hMJ.grown hg3 (fun r e => by cases e; exact ⟨Nat.le_trans hM0.size hl1, ⟨o3, ho3, hc3⟩⟩)
    clear hM1 hMJ ho3 hc3 hMW h2
    have hM4 := Mem.of_holds hH4
    have hM1 := Mem.of_holds hH2
    go_simp
    gi_wp2_with (first
      | ((with_reducible refine gI_load ?_); refine ⟨_, _, rfl, hM4.loads_all (.head _) (ag_of rfl) (hln2.map _), ?_⟩)
      | ((with_reducible refine gI_store hM1 ?_); refine ⟨_, _, _, rfl, rfl, hM1.stores_all (.here _ _ _) (ag_of rfl) (hln2.map _) (hln.map _) B8_one, ?_⟩; intro _ hM2; clear hM1; have hM1 := hM2; clear hM2))
    exact ⟨trivial, Keep.of_touch hM1.touch (fun g hg => by simp at hg; subst hg; exact ⟨hg2, hlt2⟩), hMG.join hM1 (by simp; exact hg2)⟩
  · intro D W hD hMW hDW
    have hln : Len (Chain.regK l R.length) 32 := Len.of (Chain.regK_len _ _)
    have hM1 := Mem.of_holds (hMW.holds _ (.head _))
    rw [hrl] at hM1 hMW hln
    rw [HT ()] at hM1 hMW hln
    go_wp2_with (first
      | ((with_reducible refine gL_load ?_); refine ⟨_, _, rfl, hM1.loads_all (.head _) (ag_of rfl) (hln.map _), ?_⟩)
      | ((with_reducible refine gL_store hM1 ?_); refine ⟨_, _, _, rfl, rfl, hM1.stores_all (.here _ _ _) (ag_of rfl) (hln.map _) (hln.map _) B8_one, ?_⟩; intro _ hM2; clear hM1; have hM1 := hM2; clear hM2))
    rename_i w9
    have hDl := (Array.getElem?_eq_some_iff.1 hDW).1
    have hD9 : w9.heap[D]? = some (.deferred (some [])) := (hM1.touch.block D hDl (by simp; omega)).trans hDW
    have hM9 := (hMW.join hM1 (by simp; exact hg2)).grown (grownBy_putObj' w9 D (.deferred none)) (fun r e => by cases e; exact ⟨Nat.le_trans hM.done.size hD, _, hD9, rfl⟩)
    refine ⟨by simp, .inl ⟨_, _, rfl, run_takeDeferred hD9, ?_⟩⟩
    exact (Mem.ret_cell (fn := Try.f72) (P := Try.prog) (R := fun x w' => x = .returned (.agg (T.map B8).toArray) ∧ Below w0.heap.size w0 w') (a := ⟨_, []⟩) hM9 rfl rfl rfl (.head _) (ag_of rfl) (hln.map _) ⟨rfl, hM9.done⟩).2
end Go.Proofs.Ytejmbkljnhnklaa

namespace Go.PK
open Go.RowKit
/-- what lies below m lies as it lay; of what lies beyond, the cells -/
structure Grows (m : Nat) (w w' : World) : Prop where
  below : Below m w w'
  cells : ∀ (k : Nat) (C : Array Value) (e : TypeId) (f : Nat × Nat), w.heap[k]? = some (Obj.cells C e f) → ∃ f', w'.heap[k]? = some (Obj.cells C e f')
theorem Grows.of_adds {m : Nat} {w w' : World} (h : Adds w w') (hm : m ≤ w.heap.size) : Grows m w w' :=
  ⟨h.mono hm, fun k _ _ f hk => ⟨f, (h.block k (Array.getElem?_eq_some_iff.1 hk).1).trans hk⟩⟩
theorem Grows.cell {m : Nat} {w w' : World} {a : Addr} {v : Value} (h : Grows m w w') (hc : w.cell? a = some v) : w'.cell? a = some v := by
  unfold World.cell? at hc ⊢
  split at hc
  · rename_i C e f hk
    obtain ⟨f', hf⟩ := h.cells _ _ _ _ hk
    rw [hf]
    exact hc
  · cases hc
theorem Bytes.grows {m : Nat} {w w' : World} {v : Value} {l : List UInt8} (h : Bytes w v l) (hb : Grows m w w') : Bytes w' v l := by
  obtain ⟨ao, cap, e, h1, h2, h3, h4⟩ := h
  refine ⟨ao, cap, e, h1, h2, h3, fun j hj => ?_⟩
  obtain ⟨b, off, g1, g2, g3⟩ := h4 j hj
  exact ⟨b, off, g1, Nat.lt_of_lt_of_le g2 hb.below.size, hb.cell g3⟩
def StableG (m : Nat) : List (Value → World → Prop) → Prop
  | [] => True
  | Φ :: rest => (∀ x w w', Φ x w → Grows m w w' → Φ x w') ∧ StableG m rest
theorem StableG.get {m : Nat} : ∀ (l : List (Value → World → Prop)), StableG m l → ∀ i x w w', l.getD i (fun _ _ => True) x w → Grows m w w' → l.getD i (fun _ _ => True) x w'
  | [], _, i, x, w, w', _, _ => by simp
  | Φ :: rest, h, 0, x, w, w', hx, hb => h.1 x w w' hx hb
  | Φ :: rest, h, i + 1, x, w, w', hx, hb => StableG.get rest h.2 i x w w' hx hb
section
variable {P : Program} {Q : Exit → Act → World → Prop}
theorem wp_region_grows {id : Nat} {l : List Oper} (fr : (Nat → Value) → (Nat → Value) → Act) (c vals0 : Nat → Value) {w : World} (hm : P.follows .mixedOrders = true)
    (D : List (List Nat)) (hD : aheadOk l D = true) (X : (Nat → Value) → Prop) (hX : X c)
    (Φs : List (Value → World → Prop)) (hΦ : StableG w.heap.size Φs)
    (hshow : Shows P l.toArray Q fr X (Grows w.heap.size) (Adds w) Φs D 0 l)
    (hfin : ∀ vals w', Adds w w' → (∀ i, i < l.length → Φs.getD i (fun _ _ => True) (vals i) w') → Q .normal (fr c vals) w') : (Code.region id l.toArray true).wp P Q (fr c vals0) w :=
  wp_region_rel fr c vals0 hm D hD X hX (Grows w.heap.size) (Adds w) ((Adds.refl w).drew) (fun _ _ h k => Below.trans h k.below) Φs hΦ.get hshow hfin
variable {ops : Array Oper} {fr : (Nat → Value) → (Nat → Value) → Act} {X : (Nat → Value) → Prop} {w0 : World} {Φs : List (Value → World → Prop)} {D : List (List Nat)} {o : Oper}
def ShowG (P : Program) (ops : Array Oper) (Q : Exit → Act → World → Prop) (fr : (Nat → Value) → (Nat → Value) → Act) (X : (Nat → Value) → Prop) (m : Nat) (C : World → Prop) (Φs : List (Value → World → Prop)) (D : List (List Nat)) (k : Nat) (o : Oper) : Prop :=
  (∀ c vals v, (fr c vals).put o.dst v = fr c (upd vals k v)) ∧
     ∀ c, X c → ∀ vals w, C w → (∀ j, (D.getD k []).contains j = true → Φs.getD j (fun _ _ => True) (vals j) w) →
      ∀ K : Act → World → Prop, (∀ v w', Grows m w w' → Φs.getD k (fun _ _ => True) v w' → K (fr c (upd vals k v)) w') →
       if Region.wanted o (yielded ops (fr c vals).tmps) = true then o.wp P (fr c vals) w K Q else K ((fr c vals).put o.dst undef) w
theorem showG_mark (k : Nat) (hput : ∀ c vals v, (fr c vals).put o.dst v = fr c (upd vals k v)) (hg : o.guard = none)
    (h : ∀ c vals w, Adds w0 w → (∀ j, (D.getD k []).contains j = true → Φs.getD j (fun _ _ => True) (vals j) w) → Makes P (fr c vals).eval o w fun v w' => Grows w0.heap.size w w' ∧ Φs.getD k (fun _ _ => True) v w') :
    ShowG P ops Q fr X w0.heap.size (Adds w0) Φs D k o := by
  refine ⟨hput, fun c _ vals w hC hD K hK => ?_⟩
  rw [if_pos (wanted_none hg)]
  refine (h c vals w hC hD).wp fun v w' hR => ?_
  rw [hput]
  exact hK v w' hR.1 hR.2
theorem Makes.imp {ρ : Operand → Value} {w : World} {R R' : Value → World → Prop} (h : Makes P ρ o w R) (hR : ∀ v w', R v w' → R' v w') : Makes P ρ o w R' := by
  rcases h with ⟨v, w', hr, h⟩ | ⟨w', hr, h⟩ | ⟨f, args, hr, hc⟩
  · exact .inl ⟨v, w', hr, hR _ _ h⟩
  · exact .inr (.inl ⟨w', hr, hR _ _ h⟩)
  · exact .inr (.inr ⟨f, args, hr, hc.mono fun e w' ⟨v, he, h⟩ => ⟨v, he, hR _ _ h⟩⟩)
theorem showG_op (k : Nat) (hput : ∀ c vals v, (fr c vals).put o.dst v = fr c (upd vals k v)) (hg : o.guard = none)
    (h : ∀ c vals w, Adds w0 w → (∀ j, (D.getD k []).contains j = true → Φs.getD j (fun _ _ => True) (vals j) w) → Makes P (fr c vals).eval o w fun v w' => Adds w w' ∧ Φs.getD k (fun _ _ => True) v w') :
    ShowG P ops Q fr X w0.heap.size (Adds w0) Φs D k o :=
  showG_mark k hput hg fun c vals w hC hD => (h c vals w hC hD).imp fun _ _ ⟨h1, h2⟩ => ⟨.of_adds h1 hC.size, h2⟩
variable {w : World} {R : Value → World → Prop} {ρ : Operand → Value} {a : Act}
theorem makes5 {x y z t s : Operand} {X Y Z T S : Value} (hx : a.eval x = X) (hy : a.eval y = Y) (hz : a.eval z = Z) (ht : a.eval t = T) (hs : a.eval s = S) (h : ∀ ρ : Operand → Value, (∀ v, ρ (.const v) = v) → (∀ f, ρ (.func f) = .func (.func f) #[] #[]) → ρ x = X → ρ y = Y → ρ z = Z → ρ t = T → ρ s = S → Makes P ρ o w R) : Makes P a.eval o w R := h a.eval (fun _ => rfl) (fun _ => rfl) hx hy hz ht hs
/-- '[]byte("..")' of a fixed string: the row that was made is marked -/
theorem makes_mark {t e : TypeId} {x : Operand} {b n c m : Nat} {C : Array Value} {f : Nat × Nat} (hs : P.underlying t = some (.slice e)) (he : P.underlying e = some (.int .u8)) (hb : w.heap[b]? = some (Obj.cells C e f)) (hm : m ≤ b)
    (ho : o.op = .convert t t x) (hx : ρ x = .slice (some ⟨b, 0, none⟩) n c) (hR : ∀ w', Grows m w w' → R (.slice (some ⟨b, 0, none⟩) n c) w') : Makes P ρ o w fun v w' => Grows m w w' ∧ R v w' := by
  have hG : Grows m w (w.freeze ⟨b, C.size, none⟩ 1) := by
    unfold World.freeze
    rw [if_neg (by decide)]
    refine ⟨⟨rfl, rfl, rfl, by simp, fun k hk => ?_⟩, fun k C' e' f' hk => ?_⟩
    · show (w.heap.modify b _)[k]? = _
      rw [Array.getElem?_modify, if_neg (by omega)]
    · show ∃ f'', (w.heap.modify b _)[k]? = _
      rw [Array.getElem?_modify]
      split
      · rename_i h
        rw [hk]
        exact ⟨_, rfl⟩
      · exact ⟨f', hk⟩
  refine .inl ⟨.slice (some ⟨b, 0, none⟩) n c, w.freeze ⟨b, C.size, none⟩ 1, ?_, hG, hR _ hG⟩
  unfold execOp
  have hsh : w.shape? b = some (e, C.size) := by
    unfold World.shape?
    rw [hb]
  simp [ho, hx, convert, run_underlying hs, run_underlying he, markStringish, hsh]
/-- a slice that is put together -/
theorem makes_buildSlice {t e : TypeId} {len : Nat} {parts : List (Nat × Operand)} {size bytes : Nat} {C : List Value} (hu : P.underlying t = some (.slice e)) (hel : El P e size bytes)
    (hsmall : len * size ≤ 16777216) (hpos : 0 < len) (ho : o.op = .buildSlice t len parts.toArray) (hpl : parts.map (·.1) = List.range' 0 len) (hC : (parts.map fun p => (ρ p.2)).flatMap (fun v => v.cells.toList) = C) (hall : ∀ v ∈ (parts.map fun p => (ρ p.2)), v.cells.size = size)
    (hR : R (.slice (some ⟨w.heap.size, 0, none⟩) len len) (w.alloc (.cells C.toArray e))) : Makes P ρ o w R := by
  obtain ⟨z, hinfo, hzs, hsz⟩ := hel
  obtain ⟨i, hi, hz0, hsize, hby⟩ := info_parts hinfo
  subst hC
  have hlen : parts.length = len := by simpa using congrArg List.length hpl
  have hp : ¬ len * i.size = 0 := by
    rw [hsize]
    exact Nat.ne_of_gt (Nat.mul_pos hpos hsz)
  have hf := Great.fill_whole hsz (parts.map fun p => (ρ p.2)) ((Array.range (len * size)).map (z.cells[· % z.cells.size]!)) hall (by simp [hlen])
  have hz := zipIdx_of (parts.map fun p => (p.1, ρ p.2)) 0 (by simpa [Function.comp_def, hlen] using hpl)
  have hm : (parts.map fun p => (p.1, ρ p.2)).map (·.2) = parts.map fun p => (ρ p.2) := by simp [Function.comp_def]
  rw [hm] at hz
  rw [← hz] at hf
  have hrun : (Instr.buildSlice t len ((parts.map fun p => (p.1, ρ p.2)).toArray)).run P w = .ok (.slice (some ⟨w.heap.size, 0, none⟩) len len) (w.alloc (.cells ((parts.map fun p => (ρ p.2)).flatMap (fun v => v.cells.toList)).toArray e)) := by
    have hs : ¬ len * i.size > 2 ^ 24 := by rw [hsize]; omega
    rw [← hsize] at hf
    simp [Instr.buildSlice, run_underlying hu, sizeOf, typeInfo, zeroValue, hi, hz0, hs, hp, newRow]
    rw [hf]
    rfl
  refine .inl ⟨_, _, ?_, hR⟩
  unfold execOp
  simp only [ho, List.map_toArray, Sem.run_bind, Sem.run_pure, Result.andThen_ok, hrun]
end
end Go.PK

namespace Go.PK
open Go.RowKit
/-- bytes in a row that lies from m on -/
def NewBytes (m : Nat) (w : World) (v : Value) (l : List UInt8) : Prop := Bytes w v l ∧ ∀ a n c, v = .slice (some a) n c → m ≤ a.block
theorem NewBytes.grows {m : Nat} {w w' : World} {v : Value} {l : List UInt8} (h : NewBytes m w v l) (hb : Grows m w w') : NewBytes m w' v l := ⟨h.1.grows hb, h.2⟩
/-- a row that was made, its cells -/
def NewRow (m : Nat) (e : TypeId) (w : World) (v : Value) (C : List Value) (n : Nat) : Prop := ∃ g, v = .slice (some ⟨g, 0, none⟩) n n ∧ m ≤ g ∧ ∃ f, w.heap[g]? = some (Obj.cells C.toArray e f)
theorem NewRow.grows {m : Nat} {e : TypeId} {w w' : World} {v : Value} {C : List Value} {n : Nat} (h : NewRow m e w v C n) (hb : Grows m w w') : NewRow m e w' v C n := by
  obtain ⟨g, h1, h2, f, h3⟩ := h
  exact ⟨g, h1, h2, hb.cells _ _ _ _ h3⟩
theorem NewRow.bytes {m : Nat} {e : TypeId} {w : World} {v : Value} {l : List UInt8} {n : Nat} (h : NewRow m e w v (l.map B8) n) (hl : Len l n) (hn : n ≤ 9223372036854775807) : NewBytes m w v l := by
  obtain ⟨g, rfl, h2, f, h3⟩ := h
  refine ⟨⟨some ⟨g, 0, none⟩, n, by rw [hl.eq], by rw [hl.eq]; exact Nat.le_refl _, hn, (fun h => by cases h), fun j hj => ⟨g, 0, rfl, (Array.getElem?_eq_some_iff.1 h3).1, ?_⟩⟩, fun a n c h => by cases h; exact h2⟩
  unfold World.cell?
  rw [h3]
  simp only [Option.isSome_none, Bool.false_eq_true, if_false, List.getElem?_toArray]
  rw [Nat.zero_add]
  exact get_map 0 hj
/-- a row of slices of bytes, each elsewhere than d -/
def SlRow (d : Nat) (w : World) (v : Value) (Ls : List (List UInt8)) : Prop := ∃ g, v = .slice (some ⟨g, 0, none⟩) Ls.length Ls.length ∧ g < w.heap.size ∧ g ≠ d ∧ ∀ (j : Nat) l, Ls[j]? = some l → ∃ s, w.cell? ⟨g, j, none⟩ = some s ∧ Bytes w s l ∧ (∀ a n c, 0 < l.length → s = .slice (some a) n c → a.block ≠ d)
theorem NewRow.marked {m : Nat} {P : Program} {e t : TypeId} {w : World} {v : Value} {l : List UInt8} {n : Nat} {o : Oper} {ρ : Operand → Value} {x : Operand} (h : NewRow m e w v (l.map B8) n) (hl : Len l n) (hn : n ≤ 9223372036854775807) (hs : P.underlying t = some (.slice e)) (he : P.underlying e = some (.int .u8)) (ho : o.op = .convert t t x) (hx : ρ x = v) :
    Makes P ρ o w fun v w' => Grows m w w' ∧ NewBytes m w' v l := by
  have hb := h.bytes hl hn
  obtain ⟨g, rfl, h2, f, h3⟩ := h
  exact makes_mark hs he h3 h2 ho hx fun w' hG => hb.grows hG
theorem SlRow.grows {d m : Nat} {w w' : World} {v : Value} {Ls : List (List UInt8)} (h : SlRow d w v Ls) (hb : Grows m w w') : SlRow d w' v Ls := by
  obtain ⟨g, h1, h2, h3, h4⟩ := h
  refine ⟨g, h1, Nat.lt_of_lt_of_le h2 hb.below.size, h3, fun j l hj => ?_⟩
  obtain ⟨s, h5, h6, h7⟩ := h4 j l hj
  exact ⟨s, hb.cell h5, h6.grows hb, h7⟩
section
variable {P : Program} {o : Oper} {w : World} {ρ : Operand → Value}
theorem makes_slRow5 {t e : TypeId} {x1 x2 x3 x4 x5 : Operand} {v1 v2 v3 v4 v5 : Value} {l1 l2 l3 l4 l5 : List UInt8} {d bytes : Nat} (hu : P.underlying t = some (.slice e)) (hel : El P e 1 bytes) (ho : o.op = .buildSlice t 5 #[(0, x1), (1, x2), (2, x3), (3, x4), (4, x5)])
    (h1 : ρ x1 = v1) (h2 : ρ x2 = v2) (h3 : ρ x3 = v3) (h4 : ρ x4 = v4) (h5 : ρ x5 = v5) (hd : d < w.heap.size)
    (b1 : Bytes w v1 l1) (b2 : Bytes w v2 l2) (b3 : Bytes w v3 l3) (b4 : Bytes w v4 l4) (b5 : Bytes w v5 l5)
    (o1 : ∀ a n c, 0 < l1.length → v1 = .slice (some a) n c → a.block ≠ d) (o2 : ∀ a n c, 0 < l2.length → v2 = .slice (some a) n c → a.block ≠ d) (o3 : ∀ a n c, 0 < l3.length → v3 = .slice (some a) n c → a.block ≠ d) (o4 : ∀ a n c, 0 < l4.length → v4 = .slice (some a) n c → a.block ≠ d) (o5 : ∀ a n c, 0 < l5.length → v5 = .slice (some a) n c → a.block ≠ d) :
    Makes P ρ o w fun v w' => Adds w w' ∧ SlRow d w' v [l1, l2, l3, l4, l5] := by
  have c : ∀ v l, Bytes w v l → v.cells = #[v] := fun v l ⟨_, _, h, _⟩ => by rw [h]; rfl
  have hA : Adds w (w.alloc (.cells #[v1, v2, v3, v4, v5] e)) := (Below.refl _ _).alloc (Nat.le_refl _) _
  refine makes_buildSlice (parts := [(0, x1), (1, x2), (2, x3), (3, x4), (4, x5)]) (C := [v1, v2, v3, v4, v5]) hu hel (by decide) (by decide) ho rfl ?_ ?_ ⟨hA, w.heap.size, rfl, by simp, by omega, fun j l hj => ?_⟩
  · simp only [List.map, h1, h2, h3, h4, h5, List.flatMap_cons, List.flatMap_nil, c _ _ b1, c _ _ b2, c _ _ b3, c _ _ b4, c _ _ b5]
    rfl
  · intro v hv
    simp only [List.map, h1, h2, h3, h4, h5, List.mem_cons, List.not_mem_nil, or_false] at hv
    rcases hv with rfl | rfl | rfl | rfl | rfl
    · rw [c _ _ b1]; rfl
    · rw [c _ _ b2]; rfl
    · rw [c _ _ b3]; rfl
    · rw [c _ _ b4]; rfl
    · rw [c _ _ b5]; rfl
  · have hn : ∀ j : Nat, (w.alloc (.cells #[v1, v2, v3, v4, v5] e)).cell? ⟨w.heap.size, j, none⟩ = (#[v1, v2, v3, v4, v5] : Array Value)[j]? := fun j => by
      unfold World.cell?
      rw [World.alloc_heap_new]
      rfl
    match j, hj with
    | 0, hj => simp at hj; subst hj; exact ⟨v1, hn 0, b1.adds hA, o1⟩
    | 1, hj => simp at hj; subst hj; exact ⟨v2, hn 1, b2.adds hA, o2⟩
    | 2, hj => simp at hj; subst hj; exact ⟨v3, hn 2, b3.adds hA, o3⟩
    | 3, hj => simp at hj; subst hj; exact ⟨v4, hn 3, b4.adds hA, o4⟩
    | 4, hj => simp at hj; subst hj; exact ⟨v5, hn 4, b5.adds hA, o5⟩
    | j + 5, hj => simp at hj
end
namespace Chain
def qhead : List UInt8 := [112, 111, 114, 116, 99, 117, 108, 108, 105, 115, 32, 113, 117, 111, 116, 101, 0]
theorem message_flat (nonce : List UInt8) (l : List Ev) : [qhead, num (UInt64.ofInt nonce.length) 4, nonce, num (UInt64.ofInt l.length) 4, reg l].flatten = message nonce l := by
  simp [message, qhead]
end Chain
end Go.PK
namespace Go.Proofs.Ytejmbkljnhnklaa
open Go.RowKit Go.PK
set_option maxRecDepth 100000 in
set_option maxHeartbeats 1000000 in
theorem chain_quote (w0 : World) (vk : Value) (key : List UInt8) (hvk : Bytes w0 vk key) (hk : key.length ≤ 140737488355000) (v1 : Value) (nonce : List UInt8) (hv1 : Bytes w0 v1 nonce) (h1 : nonce.length ≤ 140737488355000) (ao : Option Addr) (cap : Nat) (l : List Ev) (hE : Elems rEv w0 ao l) (hlen : l.length ≤ 140737488355000)
    (T : List UInt8) (hT : Chain.quote key nonce l = T) :
    Calls Try.prog 75 #[vk, v1, .slice ao l.length cap] w0 fun x w' => x = .returned (.agg (T.map B8).toArray) ∧ Below w0.heap.size w0 w' := by
  have hTl : Len T 32 := by rw [← hT]; exact Len.of (Chain.quote_len _ _ _)
  obtain ⟨R, hR⟩ : ∃ R, Chain.reg l = R := ⟨_, rfl⟩
  have hRl : Len R 32 := by rw [← hR]; exact Len.of (Chain.reg_len _)
  have hreg : ∀ w, Adds w0 w → _ := fun w hw => chain_register w ao cap l (hE.adds hw) hlen R hR
  have HM := Chain.message_flat nonce l
  rw [hR] at HM
  have HT : ∀ _ : Unit, T = Sha.of (Mac.over (Mac.block key) 0x5C ++ Sha.of (Mac.over (Mac.block key) 0x36 ++ [Chain.qhead, Chain.num (UInt64.ofInt nonce.length) 4, nonce, Chain.num (UInt64.ofInt l.length) 4, R].flatten)) := fun _ => by rw [HM, ← hT, Chain.quote, Mac.tag, Mac.inner]
  clear hT hR HM hE
  have hnew : ∀ w, Bytes w vk key → _ := fun w h => mac_New w vk key h hk
  have hOl : (Mac.over (Mac.block key) 0x5C).length = 64 := by rw [Mac.over_len]; exact Mac.block_len _
  have hIl : (Mac.over (Mac.block key) 0x36).length = 64 := by rw [Mac.over_len]; exact Mac.block_len _
  generalize Mac.over (Mac.block key) 0x5C = O at *
  generalize Mac.over (Mac.block key) 0x36 = I at *
  have hn1 : ∀ w, _ := fun w => chain_number w (UInt64.ofInt nonce.length) 4 (by decide)
  have hn2 : ∀ w, _ := fun w => chain_number w (UInt64.ofInt l.length) 4 (by decide)
  obtain ⟨N1, hN1⟩ : ∃ N, Chain.num (UInt64.ofInt nonce.length) 4 = N := ⟨_, rfl⟩
  obtain ⟨N2, hN2⟩ : ∃ N, Chain.num (UInt64.ofInt l.length) 4 = N := ⟨_, rfl⟩
  have hNl1 : Len N1 4 := by rw [← hN1]; exact Len.of (Chain.num_len _ _)
  have hNl2 : Len N2 4 := by rw [← hN2]; exact Len.of (Chain.num_len _ _)
  rw [hN1] at hn1 HT
  rw [hN2] at hn2 HT
  clear hN1 hN2
  obtain ⟨n, hn⟩ : ∃ n, n = l.length := ⟨_, rfl⟩
  obtain ⟨k, hkn⟩ : ∃ k, k = nonce.length := ⟨_, rfl⟩
  obtain ⟨ao1, cap1, rfl, e1, e2, -⟩ := id hv1
  rw [← hn] at hreg hn2 hlen ⊢
  rw [← hkn] at hn1 hv1 h1 ⊢
  have hkl : Len nonce k := hkn.symm
  clear hn hkn e1
  have hM := Mem.start w0
  go_enter Try.func75, Try.ntmps75
  go_wp2_with (first | ((first | ((with_reducible refine gL_alloc (dst := some 6) hM ?_); refine ⟨_, _, (zr_of rfl), ?_⟩) | ((with_reducible refine gL_box (dst := some 6) hM ?_); refine ⟨_, _, _, rfl, rfl, (by first | assumption | exact Len.map (by assumption) _ | rfl | exact Len.map (by rfl) _ | exact Len.of (by simp; done)), ?_⟩)); intro g6 _ hM2; clear hM; have hM := hM2; clear hM2))
  refine (hnew _ (hM.bytes0 hvk)).mono ?_
  rintro _ w1 ⟨gm, gd, C, rfl, hM3, hC'⟩
  replace hM := hM.addNew2 hM3.done (hM3.holds _ (.head _)) (hM3.holds _ (.tail _ (.head _))) (hM3.mem_new (.head _)) (hM3.mem_new (.tail _ (.head _))) (by have := hM3.nodup; simp at this; omega)
  clear hM3 hnew
  go_wp2_with fail
  refine (hreg _ hM.done).mono ?_
  rintro _ w2 ⟨rfl, hB⟩
  replace hM := hM.adds hB
  clear hB hreg
  go_wp2_with (first | ((first | ((with_reducible refine gL_alloc (dst := some 8) hM ?_); refine ⟨_, _, (zr_of rfl), ?_⟩) | ((with_reducible refine gL_box (dst := some 8) hM ?_); refine ⟨_, _, _, rfl, rfl, (by first | assumption | exact Len.map (by assumption) _ | rfl | exact Len.map (by rfl) _ | exact Len.of (by simp; done)), ?_⟩)); intro g8 _ hM2; clear hM; have hM := hM2; clear hM2) | ((with_reducible refine gL_store hM ?_); refine ⟨_, _, _, rfl, rfl, hM.stores_all (by (repeat (first | exact .here _ _ _ | apply Has.there)); done) (ag_of rfl) (hRl.map _) (by rfl) B8_one, ?_⟩; intro _ hM2; clear hM; have hM := hM2; clear hM2))
  rename_i w5 K1 hK1 K2 hK2
  have hgd : gd < w5.heap.size := (hM.holds _ (.tail _ (.tail _ (.head _)))).lt rfl
  have hne8 : g8 ≠ gd := by
    have := hM.nodup
    simp at this
    omega
  have hgd0 : w0.heap.size ≤ gd := (hM.own _ (.tail _ (.tail _ (.head _))) _ rfl).resolve_left (by simp)
  have hlh : Len Chain.qhead 17 := rfl
  try simp only [Act.put, List.setIfInBounds_toArray, List.set_cons_succ, List.set_cons_zero]
  refine wp_region_grows (fun c vals => ⟨#[c 0, (Value.slice ao1 k cap1 : Value), (Value.slice ao n cap : Value), c 3, c 4, c 5, c 6, c 7, (Value.pointer (some ⟨g8, 0, none⟩) : Value), c 9, c 10, c 11, c 12, c 13, c 14, vals 0, vals 1, vals 2, vals 3, vals 4, vals 5, vals 6, vals 7, vals 8, vals 9, vals 10, vals 11, vals 12, vals 13, vals 14, c 30, c 31, c 32, c 33, c 34, c 35, c 36, c 37, c 38, c 39, c 40, c 41], []⟩) (fun t => [_, undef, undef, _, _, _, _, _, undef, _, _, _, _, _, _, undef, undef, undef, undef, undef, undef, undef, undef, undef, undef, undef, undef, undef, undef, undef, _, _, _, _, _, _, _, _, _, _, _, _].getD t undef) (fun i => [_, _, _, _, _, _, _, _, _, _, _, _, _, _, _].getD i undef) (by kernel_rfl)
    [[], [0], [], [2], [2, 3], [2, 3, 4], [], [], [7], [7, 8], [2, 3, 4, 5, 7, 8, 9], [], [0, 1, 2, 3, 4, 5, 6, 7, 8, 9, 10, 11], [0, 1, 2, 3, 4, 5, 6, 7, 8, 9, 10, 11, 12], []] (by kernel_rfl) (fun _ => True) trivial
    [fun (xx : Value) (ww : World) => NewRow w5.heap.size 5 ww xx (Chain.qhead.map B8) 17,
     fun (xx : Value) (ww : World) => NewBytes w5.heap.size ww xx Chain.qhead,
     fun x _ => x = (Value.slice ao1 k cap1 : Value),
     fun x _ => x = (Value.int .i64 k : Value),
     fun x _ => x = (W64 (UInt64.ofInt k) : Value),
     fun (xx : Value) (ww : World) => NewBytes w5.heap.size ww xx N1,
     fun x _ => x = (Value.slice ao1 k cap1 : Value),
     fun x _ => x = (Value.slice ao n cap : Value),
     fun x _ => x = (Value.int .i64 n : Value),
     fun x _ => x = (W64 (UInt64.ofInt n) : Value),
     fun (xx : Value) (ww : World) => NewBytes w5.heap.size ww xx N2,
     fun x _ => x = (Value.slice (some ⟨g8, 0, none⟩) 32 32 : Value),
     fun (xx : Value) (ww : World) => SlRow gd ww xx [Chain.qhead, N1, nonce, N2, R],
     fun x _ => x = (Value.int .i64 5 : Value),
     fun x _ => x = ((Value.int IntKind.i64 0) : Value)]
    ⟨fun _ _ _ h hb => h.grows hb, fun _ _ _ h hb => h.grows hb, fun _ _ _ h _ => h, fun _ _ _ h _ => h, fun _ _ _ h _ => h, fun _ _ _ h hb => h.grows hb, fun _ _ _ h _ => h, fun _ _ _ h _ => h, fun _ _ _ h _ => h, fun _ _ _ h _ => h, fun _ _ _ h hb => h.grows hb, fun _ _ _ h _ => h, fun _ _ _ h hb => h.grows hb, fun _ _ _ h _ => h, fun _ _ _ h _ => h, trivial⟩ 
    ⟨?_, ?_, ?_, ?_, ?_, ?_, ?_, ?_, ?_, ?_, ?_, ?_, ?_, ?_, ?_, trivial⟩ ?_
  · refine showG_op 0 (by intro _ _ _; kernel_rfl) rfl (fun c vals w hC hD => ?_)
    clear hD
    refine makes0 (fun ρ rc rf => ?_)
    exact makes_buildSlice (C := Chain.qhead.map B8) Try.underlying22 (el_of rfl) (by decide) (by decide) rfl rfl (by simp only [List.map, rc]; rfl) (by simp only [List.map, rc]; decide) ⟨(Below.refl _ _).alloc (Nat.le_refl _) _, w.heap.size, rfl, hC.size, _, World.alloc_heap_new _ _⟩
  · refine showG_mark 1 (by intro _ _ _; kernel_rfl) rfl (fun c vals w hC hD => ?_)
    have h0 : (fun (xx : Value) (ww : World) => NewRow w5.heap.size 5 ww xx (Chain.qhead.map B8) 17) (vals 0) w := hD 0 rfl
    clear hD
    refine makes1 (x := .tmp 15) (X := vals 0) (by kernel_rfl : _ = vals 0) (fun ρ rc rf q15 => ?_)
    exact NewRow.marked h0 hlh (by decide) Try.underlying22 Try.underlying5 rfl q15
  · refine showG_op 2 (by intro _ _ _; kernel_rfl) rfl (fun c vals w hC hD => ?_)
    clear hD
    refine makes1 (x := .tmp 1) (X := Value.slice ao1 k cap1) (by kernel_rfl : _ = (Value.slice ao1 k cap1 : Value)) (fun ρ rc rf q1 => ?_)
    exact makes_move (.inl rfl) q1 ⟨Adds.refl _, rfl⟩
  · refine showG_op 3 (by intro _ _ _; kernel_rfl) rfl (fun c vals w hC hD => ?_)
    have h2 : vals 2 = .slice ao1 k cap1 := hD 2 rfl
    clear hD
    refine makes1 (x := .tmp 17) (X := Value.slice ao1 k cap1) ((by kernel_rfl : _ = vals 2).trans h2) (fun ρ rc rf q17 => ?_)
    clear h2
    refine makes_value (v := Value.int .i64 k) ?_ ⟨Adds.refl _, rfl⟩
    go_simp
    all_goals first | done | rfl | (rw [if_pos (by omega)]; refine congrArg (fun x => Result.ok (Next.value (Value.pointer (some ⟨_, x, none⟩))) _) ?_; omega) | (rw [wrapP_i64]; omega) | go_num | (simp; done) | (simp; omega) | (congr 1; first | rfl | (rw [wrapP_i64]; omega) | (congr 1; first | rfl | (simp; done) | (simp; omega) | (congr 2; omega) | go_num))
  · refine showG_op 4 (by intro _ _ _; kernel_rfl) rfl (fun c vals w hC hD => ?_)
    have h3 : vals 3 = .int .i64 k := hD 3 rfl
    clear hD
    refine makes1 (x := .tmp 18) (X := Value.int .i64 k) ((by kernel_rfl : _ = vals 3).trans h3) (fun ρ rc rf q18 => ?_)
    clear h3
    refine makes_value (v := W64 (UInt64.ofInt k)) ?_ ⟨Adds.refl _, rfl⟩
    go_simp
    all_goals first | done | rfl | (rw [if_pos (by omega)]; refine congrArg (fun x => Result.ok (Next.value (Value.pointer (some ⟨_, x, none⟩))) _) ?_; omega) | (rw [wrapP_i64]; omega) | go_num | (simp; done) | (simp; omega) | (congr 1; first | rfl | (rw [wrapP_i64]; omega) | (congr 1; first | rfl | (simp; done) | (simp; omega) | (congr 2; omega) | go_num))
  · refine showG_op 5 (by intro _ _ _; kernel_rfl) rfl (fun c vals w hC hD => ?_)
    have h4 : vals 4 = W64 (UInt64.ofInt k) := hD 4 rfl
    clear hD
    refine makes1 (x := .tmp 19) (X := W64 (UInt64.ofInt k)) ((by kernel_rfl : _ = vals 4).trans h4) (fun ρ rc rf q19 => ?_)
    clear h4
    refine makes_call (hn1 _) ?_ (by rintro e w' ⟨g, rfl, hm⟩; exact ⟨_, rfl, hm.done, hm.whole (ob := some g) (.head _) hNl1 (by decide), fun a n c h => by cases h; exact Nat.le_trans hC.size (hm.mem_new (.head _))⟩)
    go_simp
    all_goals first | done | rfl | exact lit8 _ (by decide)
  · refine showG_op 6 (by intro _ _ _; kernel_rfl) rfl (fun c vals w hC hD => ?_)
    clear hD
    refine makes1 (x := .tmp 1) (X := Value.slice ao1 k cap1) (by kernel_rfl : _ = (Value.slice ao1 k cap1 : Value)) (fun ρ rc rf q1 => ?_)
    exact makes_move (.inl rfl) q1 ⟨Adds.refl _, rfl⟩
  · refine showG_op 7 (by intro _ _ _; kernel_rfl) rfl (fun c vals w hC hD => ?_)
    clear hD
    refine makes1 (x := .tmp 2) (X := Value.slice ao n cap) (by kernel_rfl : _ = (Value.slice ao n cap : Value)) (fun ρ rc rf q2 => ?_)
    exact makes_move (.inl rfl) q2 ⟨Adds.refl _, rfl⟩
  · refine showG_op 8 (by intro _ _ _; kernel_rfl) rfl (fun c vals w hC hD => ?_)
    have h7 : vals 7 = .slice ao n cap := hD 7 rfl
    clear hD
    refine makes1 (x := .tmp 22) (X := Value.slice ao n cap) ((by kernel_rfl : _ = vals 7).trans h7) (fun ρ rc rf q22 => ?_)
    clear h7
    refine makes_value (v := Value.int .i64 n) ?_ ⟨Adds.refl _, rfl⟩
    go_simp
    all_goals first | done | rfl | (rw [if_pos (by omega)]; refine congrArg (fun x => Result.ok (Next.value (Value.pointer (some ⟨_, x, none⟩))) _) ?_; omega) | (rw [wrapP_i64]; omega) | go_num | (simp; done) | (simp; omega) | (congr 1; first | rfl | (rw [wrapP_i64]; omega) | (congr 1; first | rfl | (simp; done) | (simp; omega) | (congr 2; omega) | go_num))
  · refine showG_op 9 (by intro _ _ _; kernel_rfl) rfl (fun c vals w hC hD => ?_)
    have h8 : vals 8 = .int .i64 n := hD 8 rfl
    clear hD
    refine makes1 (x := .tmp 23) (X := Value.int .i64 n) ((by kernel_rfl : _ = vals 8).trans h8) (fun ρ rc rf q23 => ?_)
    clear h8
    refine makes_value (v := W64 (UInt64.ofInt n)) ?_ ⟨Adds.refl _, rfl⟩
    go_simp
    all_goals first | done | rfl | (rw [if_pos (by omega)]; refine congrArg (fun x => Result.ok (Next.value (Value.pointer (some ⟨_, x, none⟩))) _) ?_; omega) | (rw [wrapP_i64]; omega) | go_num | (simp; done) | (simp; omega) | (congr 1; first | rfl | (rw [wrapP_i64]; omega) | (congr 1; first | rfl | (simp; done) | (simp; omega) | (congr 2; omega) | go_num))
  · refine showG_op 10 (by intro _ _ _; kernel_rfl) rfl (fun c vals w hC hD => ?_)
    have h9 : vals 9 = W64 (UInt64.ofInt n) := hD 9 rfl
    clear hD
    refine makes1 (x := .tmp 24) (X := W64 (UInt64.ofInt n)) ((by kernel_rfl : _ = vals 9).trans h9) (fun ρ rc rf q24 => ?_)
    clear h9
    refine makes_call (hn2 _) ?_ (by rintro e w' ⟨g, rfl, hm⟩; exact ⟨_, rfl, hm.done, hm.whole (ob := some g) (.head _) hNl2 (by decide), fun a n c h => by cases h; exact Nat.le_trans hC.size (hm.mem_new (.head _))⟩)
    go_simp
    all_goals first | done | rfl | exact lit8 _ (by decide)
  · refine showG_op 11 (by intro _ _ _; kernel_rfl) rfl (fun c vals w hC hD => ?_)
    clear hD
    refine makes1 (x := .tmp 8) (X := Value.pointer (some ⟨g8, 0, none⟩)) (by kernel_rfl : _ = (Value.pointer (some ⟨g8, 0, none⟩) : Value)) (fun ρ rc rf q8 => ?_)
    exact makes_slice (slice_arr_all (t := 24) (ua_of rfl) (by exact elOne rfl)) rfl q8 rfl rfl rfl ⟨Adds.refl _, rfl⟩
  · refine showG_op 12 (by intro _ _ _; kernel_rfl) rfl (fun c vals w hC hD => ?_)
    have h1 : (fun (xx : Value) (ww : World) => NewBytes w5.heap.size ww xx Chain.qhead) (vals 1) w := hD 1 rfl
    have h5 : (fun (xx : Value) (ww : World) => NewBytes w5.heap.size ww xx N1) (vals 5) w := hD 5 rfl
    have h6 : vals 6 = .slice ao1 k cap1 := hD 6 rfl
    have h10 : (fun (xx : Value) (ww : World) => NewBytes w5.heap.size ww xx N2) (vals 10) w := hD 10 rfl
    have h11 : vals 11 = .slice (some ⟨g8, 0, none⟩) 32 32 := hD 11 rfl
    clear hD
    refine makes5 (x := .tmp 16) (X := vals 1) (y := .tmp 20) (Y := vals 5) (z := .tmp 21) (Z := Value.slice ao1 k cap1) (t := .tmp 25) (T := vals 10) (s := .tmp 26) (S := Value.slice (some ⟨g8, 0, none⟩) 32 32) (by kernel_rfl : _ = vals 1) (by kernel_rfl : _ = vals 5) ((by kernel_rfl : _ = vals 6).trans h6) (by kernel_rfl : _ = vals 10) ((by kernel_rfl : _ = vals 11).trans h11) (fun ρ rc rf q16 q20 q21 q25 q26 => ?_)
    clear h6 h11
    exact makes_slRow5 Try.underlying34 (el_of rfl) rfl q16 q20 q21 q25 q26 (Nat.lt_of_lt_of_le hgd hC.size) h1.1 h5.1 ((hM.adds hC).bytes0 hv1) h10.1 ((hM.adds hC).whole (ob := some g8) (.head _) hRl (by decide)) (fun a n' c' _ he => by have := h1.2 a n' c' he; omega) (fun a n' c' _ he => by have := h5.2 a n' c' he; omega) (fun a n' c' h0 he => Off.old hv1 hgd0 h0 a n' c' he) (fun a n' c' _ he => by have := h10.2 a n' c' he; omega) (fun a n' c' _ he => by cases he; exact hne8)
  · refine showG_op 13 (by intro _ _ _; kernel_rfl) rfl (fun c vals w hC hD => ?_)
    have h12 : (fun (xx : Value) (ww : World) => SlRow gd ww xx [Chain.qhead, N1, nonce, N2, R]) (vals 12) w := hD 12 rfl
    clear hD
    refine makes1 (x := .tmp 27) (X := vals 12) (by kernel_rfl : _ = vals 12) (fun ρ rc rf q27 => ?_)
    (obtain ⟨g, e, -⟩ := h12; rw [e] at q27; refine makes_value (v := .int .i64 5) ?_ ⟨Adds.refl _, rfl⟩; go_simp)
  · refine showG_op 14 (by intro _ _ _; kernel_rfl) rfl (fun c vals w hC hD => ?_)
    clear hD
    refine makes0 (fun ρ rc rf => ?_)
    exact makes_move (.inl rfl) (rc _) ⟨Adds.refl _, rfl⟩
  intro vals w' hC hΦ
  have h12 : (fun (xx : Value) (ww : World) => SlRow gd ww xx [Chain.qhead, N1, nonce, N2, R]) (vals 12) w' := hΦ 12 (by decide)
  have h13 : vals 13 = .int .i64 5 := hΦ 13 (by decide)
  have h14 : vals 14 = (Value.int IntKind.i64 0) := hΦ 14 (by decide)
  clear hΦ
  simp only [List.getD_eq_getElem?_getD, List.getElem?_cons_zero, List.getElem?_cons_succ, Option.getD_some]
  simp only [h13, h14]
  clear h13 h14
  try simp only [tuple_undef]
  replace hM := hM.adds hC
  obtain ⟨gr, e12, hgr, hgrd, hrow⟩ := h12
  change vals 12 = .slice (some ⟨gr, 0, none⟩) 5 5 at e12
  rw [e12]
  clear e12 hC hn1 hn2 hgd hne8 hlh
  obtain ⟨Ls, hLs⟩ : ∃ Ls, [Chain.qhead, N1, nonce, N2, R] = Ls := ⟨_, rfl⟩
  have hL5 : Len Ls 5 := by rw [← hLs]; rfl
  have hLt : I.length + Ls.flatten.length ≤ 281474976710656 := by
    rw [← hLs]
    have e1 := hNl1.eq
    have e2 := hNl2.eq
    have e3 := hkl.eq
    have e4 := hRl.eq
    simp [Chain.qhead, hIl, e1, e2, e3, e4]
    omega
  rw [hLs] at hrow HT
  clear hLs hNl1 hNl2 hkl
  have hnext : ∀ (j : Nat) m, Ls[j]? = some m → (Ls.take (j + 1)).flatten = (Ls.take j).flatten ++ m := fun j m h => by
    rw [List.take_add_one, h, List.flatten_append]
    simp
  have hsum : ∀ (j : Nat) m, Ls[j]? = some m → (I ++ (Ls.take j).flatten).length + m.length ≤ 4611686018427387904 := fun j m h => by
    have e1 := congrArg List.length (hnext j m h)
    have e2 : (Ls.take (j + 1)).flatten.length + (Ls.drop (j + 1)).flatten.length = Ls.flatten.length := by
      rw [← List.length_append, ← List.flatten_append, List.take_append_drop]
    rw [List.length_append] at e1 ⊢
    omega
  have hall : ∀ _ : Unit, Ls.flatten = (Ls.take 5).flatten := fun _ => by rw [List.take_of_length_le (by have := hL5.eq; omega)]
  have hl5 : ∀ j : Nat, j < 5 → ∃ m, Ls[j]? = some m := fun j hj => ⟨_, List.getElem?_eq_getElem (by have := hL5.eq; omega)⟩
  have hRd := hM.rowN (.tail _ (.tail _ (.head _))) hC'.len
  have ht0 : PK.Touch [gd] w' w' := PK.Touch.refl _ _
  have hi0 : DigAt C (I ++ (Ls.take 0).flatten) := by rw [List.take_zero, List.flatten_nil, List.append_nil]; exact hC'
  go_wp2_with fail
  go_loopw [29] (fun i wr => ∃ (j : Nat) (D : List Value), j ≤ 5 ∧ i = .int .i64 j ∧ PK.Touch [gd] w' wr ∧ Row wr gd 118 D ∧ DigAt D (I ++ (Ls.take j).flatten)) (fun i _ => 5 - (intOf i).toNat)
  case atStart => exact ⟨0, C, by omega, rfl, ht0, hRd, hi0⟩
  case round =>
    clear hRd hi0 ht0
    obtain ⟨j, D, hj, rfl, ht, hRd, hD⟩ := hrel
    have hMr := hM.calls (.there _ (.there _ (.here _ _ _))) ht hRd hD.len
    by_cases hlt : j < 5
    · have hti : (j : Int) < 5 := by omega
      obtain ⟨m, hm⟩ := hl5 j hlt
      have hnx := hnext j m hm
      have hsm := hsum j m hm
      obtain ⟨s, hs, hbs, hoff⟩ := hrow j m hm
      have hoff2 : Off s m gd := fun h0 a n' c' he => hoff a n' c' h0 he
      have hM6 : Mem [gd] w' wr [] := ⟨ht, by simp, by simp, by simp⟩
      have hbw := hM6.bytesOff hbs hoff2
      have hcell : wr.cell? ⟨gr, j, none⟩ = some s := (World.cell?_of_block (ht.block gr hgr (by simp; exact hgrd))).trans hs
      clear hs hbs hoff hM6 hm hnext hsum hl5 hrow
      generalize (Ls.take j).flatten = A at *
      go_wp2_with (first
        | ((with_reducible refine gL_load (dst := some 32) ?_); refine ⟨_, _, rfl, loads_cell hcell (on_of rfl), ?_⟩)
        | ((with_reducible refine gL_load (dst := some 36) ?_); refine ⟨_, _, rfl, hMr.loads_one (.tail _ (.head _)) (on_of rfl) (rfl : (macC gd O)[0]? = some (.pointer (some ⟨gd, 0, none⟩))), ?_⟩))
      refine (sha_Write _ gd D _ hRd hD s m hbw hoff2 hsm).mono ?_
      rintro _ w7 ⟨rfl, D2, hT2, hR2, hD2⟩
      rw [List.append_assoc, ← hnx] at hD2
      have ht2 := ht.step hT2 (by simp)
      clear ht hRd hD hMr hnx hsm hbw hcell hT2
      go_wp2_with fail
      go_roundw
      case rel => exact ⟨j + 1, D2, by omega, by go_num, ht2, hR2, hD2⟩
      case measure => simp [intOf]; omega
    · have hje : j = 5 := by omega
      subst hje
      rw [← hall ()] at hD
      have hlm : (I ++ Ls.flatten).length ≤ 2305843009213693952 := by rw [List.length_append]; omega
      clear hall hrow hl5 hsum hnext hM ht
      generalize Ls.flatten = A at *
      go_wp2_with fail
      have hRm := hMr.rowN (.tail _ (.head _)) (macC_len hOl)
      refine (mac_Sum _ gm gd O D _ hRm hOl hRd hD hlm).mono ?_
      rintro _ w7 ⟨rfl, hB⟩
      replace hMr := hMr.adds hB
      clear hB hRm hRd
      rw [← HT ()]
      go_wp2_with (first | ((with_reducible refine gL_store hMr ?_); refine ⟨_, _, _, rfl, rfl, hMr.stores_all (by (repeat (first | exact .here _ _ _ | apply Has.there)); done) (ag_of rfl) (hTl.map _) (by rfl) B8_one, ?_⟩; intro _ hM2; clear hMr; have hM := hM2; clear hM2))
      exact hM.ret_cell rfl rfl rfl (by (repeat (first | exact .head _ | apply List.Mem.tail)); done) (ag_of rfl) (hTl.map _) ⟨rfl, hM.done⟩
end Go.Proofs.Ytejmbkljnhnklaa

namespace Go.PK
open Go.RowKit
section
variable {P : Program} {Q : Exit → Act → World → Prop}
/-- from the m-th operation on each follows all that are ahead of it; but the m-th need not follow those of F -/
def tailOkF (m : Nat) (F : List Nat) (ops : List Oper) (D : List (List Nat)) : Bool := (List.range ops.length).all fun i => i < m || (List.range i).all fun j => (i == m && F.contains j) || (D.getD i []).contains j
/-- what holds when the operations in 'listed' have run -/
def WrInv (P : Program) (Q : Exit → Act → World → Prop) (l : List Oper) (m : Nat) (F : List Nat) (fr : (Nat → Value) → (Nat → Value) → Act) (c : Nat → Value) (C : World → Prop) (Φs : List (Value → World → Prop)) (Es : List (Value → Prop)) (S : Value → World → Prop) (D : List (List Nat)) (listed : Array Bool) (a : Act) (w' : World) : Prop :=
  listed.size = l.length ∧ (∀ i o, listed[i]? = some true → l[i]? = some o → (∀ k ∈ bound o, listed[k]? = some true) ∧ ∀ j, (D.getD i []).contains j = true → listed[j]? = some true) ∧
  ((C w' ∧ (∀ i, m ≤ i → listed[i]? ≠ some true) ∧ ∃ vals, a = fr c vals ∧ (∀ i, listed[i]? = some true → Φs.getD i (fun _ _ => True) (vals i) w')) ∨
   (listed[m]? = some true ∧ (∀ i, m < i → listed[i]? ≠ some true) ∧ (∀ i, i < m → F.contains i = false → listed[i]? = some true) ∧ ∃ vals, a = fr c vals ∧ S (vals m) w' ∧ ∀ i, i < m → listed[i]? = some true → Es.getD i (fun _ => True) (vals i)) ∨
   (∃ j, m + 1 < j ∧ (∀ i, i < j → listed[i]? = some true) ∧ (∀ i, j ≤ i → listed[i]? ≠ some true) ∧ wpList P l.toArray Q (l.drop j) a w'))
theorem wp_region_writer {id : Nat} {l : List Oper} (m : Nat) (hml : m < l.length) (F : List Nat) (fr : (Nat → Value) → (Nat → Value) → Act) (c vals0 : Nat → Value) {w : World} (hm : P.follows .mixedOrders = true)
    (D : List (List Nat)) (hD : aheadOk l D = true) (hT : tailOkF m F l D = true) (X : (Nat → Value) → Prop) (hX : X c)
    (Φs : List (Value → World → Prop)) (hΦ : StableAll Φs) (Es : List (Value → Prop)) (hE : ∀ i x w', i < m → Φs.getD i (fun _ _ => True) x w' → Es.getD i (fun _ => True) x) (S : Value → World → Prop)
    (hshow : ShowsA P l.toArray Q fr X (Adds w) Φs D [] 0 (l.take m))
    (hfree : ∀ i o, i < m → F.contains i = true → l[i]? = some o → ∀ vals w', ∀ K : Act → World → Prop, (∀ v, Es.getD i (fun _ => True) v → K (fr c (upd vals i v)) w') → Region.wanted o (yielded l.toArray (fr c vals).tmps) = true ∧ o.wp P (fr c vals) w' K Q)
    (hwr : ∀ o, l[m]? = some o → ∀ vals w', Adds w w' → (∀ j, j < m → F.contains j = false → Φs.getD j (fun _ _ => True) (vals j) w') → ∀ K : Act → World → Prop, (∀ v w'', S v w'' → K (fr c (upd vals m v)) w'') → Region.wanted o (yielded l.toArray (fr c vals).tmps) = true ∧ o.wp P (fr c vals) w' K Q)
    (hfin : ∀ vals w', S (vals m) w' → (∀ i, i < m → Es.getD i (fun _ => True) (vals i)) → wpList P l.toArray Q (l.drop (m + 1)) (fr c vals) w') :
    (Code.region id l.toArray true).wp P Q (fr c vals0) w := by
  refine wp_region_any hm ?_
  have hdrew : ({ w with drawn := w.drawn + 1 } : World) = w.drew := rfl
  rw [hdrew]
  have hacyc : ∀ i o, l[i]? = some o → (∀ k ∈ bound o, k < i) ∧ ∀ j, (D.getD i []).contains j = true → j ∈ bound o ∨ ∃ k ∈ bound o, (D.getD k []).contains j = true := by
    intro i o ho
    unfold aheadOk at hD
    rw [List.all_eq_true] at hD
    have := hD (o, i) (by rw [List.mem_iff_getElem?]; exact ⟨i, by simp [ho]⟩)
    simp only [Bool.and_eq_true, List.all_eq_true] at this
    obtain ⟨h1, h2⟩ := this
    refine ⟨fun k hk => by simpa using h1 k hk, fun j hj => ?_⟩
    have := h2 j (by simpa using hj)
    rw [Bool.or_eq_true] at this
    rcases this with h | h
    · exact .inl (by simpa using h)
    · rw [List.any_eq_true] at h
      obtain ⟨k, hk, hj'⟩ := h
      exact .inr ⟨k, hk, hj'⟩
  have htail : ∀ i, m ≤ i → i < l.length → ∀ j, j < i → (i = m ∧ F.contains j = true) ∨ (D.getD i []).contains j = true := by
    intro i h1 h2 j hj
    unfold tailOkF at hT
    rw [List.all_eq_true] at hT
    have := hT i (List.mem_range.2 h2)
    rw [Bool.or_eq_true] at this
    rcases this with h | h
    · have : i < m := by simpa using h
      omega
    · rw [List.all_eq_true] at h
      have := h j (List.mem_range.2 hj)
      rw [Bool.or_eq_true, Bool.and_eq_true] at this
      rcases this with ⟨h3, h4⟩ | h3
      · exact .inl ⟨by simpa using h3, h4⟩
      · exact .inr h3
  refine wpAny_inv (I := WrInv P Q l m F fr c (Adds w) Φs Es S D) ?_ ?_ _ _ _ _ ?_ ?_
  · rintro listed a w' ⟨hs, hcl, hor⟩ hr
    have hall : ∀ i, i < l.length → listed[i]? = some true := by
      intro i
      induction i using Nat.strongRecOn with
      | ind i ih =>
        intro hi
        have hil : i < listed.size := by omega
        cases hb : listed[i] with
        | true => simp [hil, hb]
        | false =>
          exfalso
          have ho : l[i]? = some l[i] := List.getElem?_eq_getElem hi
          have hmem : i ∈ Region.ready .any l.toArray listed := by
            unfold Region.ready
            rw [List.mem_filter]
            refine ⟨by simp [hi], ?_⟩
            rw [Bool.and_eq_true]
            refine ⟨by simp [Array.getD, hil, hb], ?_⟩
            have : l.toArray[i]? = some l[i] := by simp
            rw [this]
            simp only [Option.map_some, Option.getD_some]
            rw [Array.all_eq_true']
            intro e he
            cases hbd : Region.binds .any e with
            | false => rfl
            | true =>
              have hk : e.on ∈ bound l[i] := by
                unfold bound
                rw [List.mem_map]
                exact ⟨e, List.mem_filter.2 ⟨Array.mem_toList_iff.2 he, hbd⟩, rfl⟩
              have hlt := (hacyc i l[i] ho).1 e.on hk
              have hle := ih e.on hlt (by omega)
              have hlt' : e.on < listed.size := by omega
              simp only [Array.getD, hlt', dite_true, Bool.not_true, Bool.false_or]
              rw [Array.getElem?_eq_getElem hlt'] at hle
              exact Option.some.inj hle
          rw [hr] at hmem
          cases hmem
    rcases hor with ⟨hC, hno, vals, rfl, hv⟩ | ⟨hlm, hno, hbe, vals, rfl, hS, hv⟩ | ⟨j, hj, hyes, hno, hwp⟩
    · exact absurd (hall m hml) (hno m (Nat.le_refl _))
    · have hle : l.length ≤ m + 1 := by
        rcases Nat.lt_or_ge (m + 1) l.length with h | h
        · exact absurd (hall (m + 1) h) (hno (m + 1) (by omega))
        · exact h
      have := hfin vals w' hS (fun i hi => hv i hi (hall i (by omega)))
      rw [List.drop_of_length_le hle] at this
      exact this
    · have hjl : l.length ≤ j := by
        rcases Nat.lt_or_ge j l.length with h | h
        · exact absurd (hall j h) (hno j (Nat.le_refl _))
        · exact h
      rw [List.drop_of_length_le hjl] at hwp
      exact hwp
  · rintro listed a w' i ⟨hs, hcl, hor⟩ hi
    obtain ⟨hun, o, ho, hbd⟩ := Go.PK.mem_ready hi
    have ho' : l[i]? = some o := by simpa using ho
    have hil : i < l.length := (List.getElem?_eq_some_iff.1 ho').1
    have hbd' : ∀ k ∈ bound o, listed[k]? = some true := by
      intro k hk
      unfold bound at hk
      rw [List.mem_map] at hk
      obtain ⟨e, he, rfl⟩ := hk
      rw [List.mem_filter] at he
      have := hbd e he.1 he.2
      by_cases hlt : e.on < listed.size
      · simp [Array.getD, hlt] at this
        simp [hlt, this]
      · simp [Array.getD, hlt] at this
    have hDl : ∀ j, (D.getD i []).contains j = true → listed[j]? = some true := by
      intro j hj
      rcases (hacyc i o ho').2 j hj with h | ⟨k, hk, hj'⟩
      · exact hbd' j h
      · have hkl := hbd' k hk
        have hklt : k < l.length := by have := (hacyc i o ho').1 k hk; omega
        exact (hcl k l[k] hkl (List.getElem?_eq_getElem hklt)).2 j hj'
    have hi' : listed[i]? = some false := by
      have hlt : i < listed.size := by omega
      simp [Array.getD, hlt] at hun
      simp [hlt, hun]
    have hmono : ∀ j : Nat, listed[j]? = some true → (listed.setIfInBounds i true)[j]? = some true := by
      intro j hj
      rw [Array.getElem?_setIfInBounds]
      split
      · rename_i h
        subst h
        rw [if_pos (by omega)]
      · exact hj
    have hcl' : ∀ j o', (listed.setIfInBounds i true)[j]? = some true → l[j]? = some o' → (∀ k ∈ bound o', (listed.setIfInBounds i true)[k]? = some true) ∧ ∀ k, (D.getD j []).contains k = true → (listed.setIfInBounds i true)[k]? = some true := by
      intro j o' hj ho''
      by_cases hji : j = i
      · subst hji
        rw [ho'] at ho''
        cases ho''
        exact ⟨fun k hk => hmono k (hbd' k hk), fun j' hj' => hmono j' (hDl j' hj')⟩
      · rw [Array.getElem?_setIfInBounds_ne (Ne.symm hji)] at hj
        obtain ⟨g1, g2⟩ := hcl j o' hj ho''
        exact ⟨fun k hk => hmono k (g1 k hk), fun j' hj' => hmono j' (g2 j' hj')⟩
    have back : ∀ j, j ≠ i → (listed.setIfInBounds i true)[j]? = some true → listed[j]? = some true := fun j hj h => by
      rwa [Array.getElem?_setIfInBounds_ne (Ne.symm hj)] at h
    have here : (listed.setIfInBounds i true)[i]? = some true := by rw [Array.getElem?_setIfInBounds, if_pos rfl, if_pos (by omega)]
    have run : ∀ j, m + 1 ≤ j → i = j → (∀ k, k < j → listed[k]? = some true) → (∀ k, j ≤ k → listed[k]? ≠ some true) → wpList P l.toArray Q (l.drop j) a w' → wpOp P l.toArray Q i (WrInv P Q l m F fr c (Adds w) Φs Es S D (listed.setIfInBounds i true)) a w' := by
      intro j hj hij hyes hno hwp
      subst hij
      rw [List.drop_eq_getElem_cons hil] at hwp
      have hoi : l[i] = o := by rw [List.getElem?_eq_getElem hil] at ho'; exact Option.some.inj ho'
      rw [hoi] at hwp
      have hnext : ∀ a2 w2, wpList P l.toArray Q (l.drop (i + 1)) a2 w2 → WrInv P Q l m F fr c (Adds w) Φs Es S D (listed.setIfInBounds i true) a2 w2 := by
        intro a2 w2 h2
        refine ⟨by simpa using hs, hcl', .inr (.inr ⟨i + 1, by omega, fun k hk => ?_, fun k hk hk' => ?_, h2⟩)⟩
        · by_cases hki : k = i
          · subst hki
            exact here
          · exact hmono k (hyes k (by omega))
        · exact hno k (by omega) (back k (by omega) hk')
      unfold wpOp
      rw [ho]
      show if Region.wanted o (yielded l.toArray a.tmps) = true then _ else _
      unfold wpList at hwp
      split
      · rename_i hw
        rw [if_pos hw] at hwp
        exact hwp.imp (Oper.wp_mono hnext) fun h => h
      · rename_i hw
        rw [if_neg hw] at hwp
        exact hnext _ _ hwp
    have one : ∀ K : Act → World → Prop, Region.wanted o (yielded l.toArray a.tmps) = true ∧ o.wp P a w' K Q → wpOp P l.toArray Q i K a w' := by
      rintro K ⟨h1, h2⟩
      unfold wpOp
      rw [ho]
      show if Region.wanted o (yielded l.toArray a.tmps) = true then _ else _
      rw [if_pos h1]
      exact .inl h2
    rcases hor with ⟨hC, hno, vals, rfl, hv⟩ | ⟨hlm, hno, hbe, vals, rfl, hS, hv⟩ | ⟨j, hj, hyes, hno, hwp⟩
    · by_cases him : i < m
      · have hsh := ShowsA.get _ 0 hshow i o (by rw [List.getElem?_take, if_pos him]; exact ho')
        rw [Nat.zero_add] at hsh
        obtain ⟨hput, hsh⟩ := hsh
        have hrun := hsh c hX vals w' hC (fun j hj => hv j (hDl j hj)) (WrInv P Q l m F fr c (Adds w) Φs Es S D (listed.setIfInBounds i true)) (fun v w'' hR hΦi _ => by
          refine ⟨by simpa using hs, hcl', .inl ⟨hC.trans hR, fun k hk hk' => ?_, upd vals i v, rfl, fun j hj => ?_⟩⟩
          · exact hno k hk (back k (by omega) hk')
          · unfold upd
            by_cases hji : j = i
            · subst hji
              rw [if_pos rfl]
              exact hΦi
            · rw [if_neg hji]
              exact hΦ.get _ _ _ _ _ (hv j (back j hji hj)) hR)
        unfold wpOp
        rw [ho]
        show if Region.wanted o (yielded l.toArray (fr c vals).tmps) = true then _ else _
        split
        · rename_i hw
          rw [if_pos hw] at hrun
          exact .inl hrun
        · rename_i hw
          rw [if_neg hw] at hrun
          exact hrun
      · have heq : i = m := by
          rcases Nat.lt_or_ge m i with h | h
          · rcases htail i (by omega) hil m h with ⟨h3, _⟩ | h3
            · omega
            · exact absurd (hDl m h3) (hno m (Nat.le_refl _))
          · omega
        subst heq
        have hbe : ∀ j, j < i → F.contains j = false → listed[j]? = some true := fun j hj hf => by
          rcases htail i (Nat.le_refl _) hil j hj with ⟨_, h3⟩ | h3
          · rw [hf] at h3; cases h3
          · exact hDl j h3
        refine one _ (hwr o ho' vals w' hC (fun j hj hf => hv j (hbe j hj hf)) _ fun v w'' hSv => ⟨by simpa using hs, hcl', .inr (.inl ⟨here, fun k hk hk' => hno k (by omega) (back k (by omega) hk'), fun j hj hf => hmono j (hbe j hj hf), upd vals i v, rfl, ?_, fun j hj hj' => ?_⟩)⟩)
        · unfold upd
          rw [if_pos rfl]
          exact hSv
        · unfold upd
          rw [if_neg (by omega)]
          exact hE j _ w' hj (hv j (back j (by omega) hj'))
    · by_cases him : i < m
      · have hF : F.contains i = true := by
          cases hf : F.contains i with
          | true => rfl
          | false => rw [hbe i him hf] at hi'; cases hi'
        refine one _ (hfree i o him hF ho' vals w' _ fun v hEv => ⟨by simpa using hs, hcl', .inr (.inl ⟨hmono m hlm, fun k hk hk' => hno k hk (back k (by omega) hk'), fun j hj hf => hmono j (hbe j hj hf), upd vals i v, rfl, ?_, fun j hj hj' => ?_⟩)⟩)
        · unfold upd
          rw [if_neg (by omega)]
          exact hS
        · unfold upd
          by_cases hji : j = i
          · subst hji
            rw [if_pos rfl]
            exact hEv
          · rw [if_neg hji]
            exact hv j hj (back j hji hj')
      · have hne : i ≠ m := fun h => by subst h; rw [hlm] at hi'; cases hi'
        have heq : i = m + 1 := by
          rcases Nat.lt_or_ge (m + 1) i with h | h
          · rcases htail i (by omega) hil (m + 1) h with ⟨h3, _⟩ | h3
            · omega
            · exact absurd (hDl (m + 1) h3) (hno (m + 1) (by omega))
          · omega
        have hall1 : ∀ k, k < m + 1 → listed[k]? = some true := fun k hk => by
          rcases htail i (by omega) hil k (by omega) with ⟨h3, _⟩ | h3
          · omega
          · exact hDl k h3
        exact run (m + 1) (Nat.le_refl _) heq hall1 (fun k hk => hno k (by omega)) (hfin vals w' hS fun k hk => hv k hk (hall1 k (by omega)))
    · have heq : i = j := by
        have h1 : j ≤ i := by
          rcases Nat.lt_or_ge i j with h | h
          · exfalso
            have := hyes i h
            rw [hi'] at this
            cases this
          · exact h
        rcases Nat.lt_or_ge j i with h | h
        · rcases htail i (by omega) hil j h with ⟨h3, _⟩ | h3
          · omega
          · exact absurd (hDl j h3) (hno j (Nat.le_refl _))
        · omega
      exact run j (by omega) heq hyes hno hwp
  · show unlisted (Array.replicate l.toArray.size false) ≤ l.toArray.size
    unfold unlisted
    have := List.countP_le_length (p := (! ·)) (l := (Array.replicate l.toArray.size false).toList)
    simpa using this
  · have hnone : ∀ i : Nat, (Array.replicate l.toArray.size false)[i]? ≠ some true := by
      intro i hi
      rw [Array.getElem?_replicate] at hi
      split at hi <;> cases hi
    exact ⟨by simp, fun i o hi => absurd hi (hnone i), .inl ⟨(Adds.refl w).drew, fun i _ => hnone i, vals0, rfl, fun i hi => absurd hi (hnone i)⟩⟩
/-- a plain move, wherever it comes -/
theorem free_move {ops : Array Oper} {o : Oper} {a : Act} {w : World} {K : Act → World → Prop} {x : Operand} {v : Value} {E : Value → Prop} {B : Value → Act} (hg : o.guard = none) (ho : o.op = .move x) (hx : a.eval x = v)
    (hK : ∀ v, E v → K (B v) w) (hput : ∀ v, a.put o.dst v = B v) (hE : E v) : Region.wanted o (yielded ops a.tmps) = true ∧ o.wp P a w K Q := by
  refine ⟨wanted_none hg, Makes.wp (R := fun v' w' => v' = v ∧ w' = w) (makes_move (.inl ho) hx ⟨rfl, rfl⟩) ?_⟩
  rintro v' w' ⟨rfl, rfl⟩
  rw [hput]
  exact hK v' hE
theorem writer_of {ops : Array Oper} {o : Oper} {a : Act} {w : World} {K : Act → World → Prop} {S : Value → World → Prop} {B : Value → Act} (hg : o.guard = none) (hK : ∀ v w', S v w' → K (B v) w') (hput : ∀ v, a.put o.dst v = B v)
    (h : ∀ K2 : Act → World → Prop, (∀ v w', S v w' → K2 (a.put o.dst v) w') → o.wp P a w K2 Q) : Region.wanted o (yielded ops a.tmps) = true ∧ o.wp P a w K Q :=
  ⟨wanted_none hg, h K fun v w' hs => by rw [hput]; exact hK v w' hs⟩
end
end Go.PK

namespace Go.PK
open Go.RowKit
theorem NewRow.adds {m : Nat} {e : TypeId} {w w' : World} {v : Value} {C : List Value} {n : Nat} (h : NewRow m e w v C n) (hb : Adds w w') : NewRow m e w' v C n := by
  obtain ⟨g, h1, h2, f, h3⟩ := h
  exact ⟨g, h1, h2, f, (hb.block g (Array.getElem?_eq_some_iff.1 h3).1).trans h3⟩
theorem NewRow.src {m : Nat} {e : TypeId} {w : World} {v : Value} {C : List Value} {n : Nat} (h : NewRow m e w v C n) : Src w v n C := by
  obtain ⟨g, rfl, h2, f, h3⟩ := h
  refine .inl ⟨_, _, rfl, fun j u hu => ?_⟩
  rw [Addr.add_lit, Nat.zero_add]
  unfold World.cell?
  rw [h3]
  simpa using hu
end Go.PK
namespace Go.Proofs.Ytejmbkljnhnklaa
open Go.RowKit Go.PK
/-- events' cells -/
def evs (l : List Ev) : List Value := l.flatMap evC
theorem evs_snoc (l : List Ev) (e : Ev) : evs l ++ evC e = evs (l ++ [e]) := by simp [evs]
theorem evs_len {l : List Ev} (h : ∀ e ∈ l, Len e.1 32) : (evs l).length = l.length * 33 := by
  induction l with
  | nil => rfl
  | cons e l ih =>
    rw [evs, List.flatMap_cons, List.length_append, (evC_len (h e (by simp))).eq, List.length_cons, Nat.add_mul, show (l.flatMap evC).length = _ from ih fun x hx => h x (by simp [hx])]
    omega
set_option maxRecDepth 100000 in
set_option maxHeartbeats 4000000 in
theorem chain_Add {G : List Nat} {w0 w : World} {L : List Blk} (gl : Nat) (ob : Option Nat) (n cap : Nat) (A : List Value) (hA : A.length = n * 33) (hcap : cap ≤ maxLen)
    (hM : Mem G w0 w (⟨some gl, 122, [sl ob n cap], 1⟩ :: ⟨ob, 64, A, cap * 33⟩ :: L)) (e : Ev) (he : Len e.1 32) :
    Calls Try.prog 51 #[.pointer (some ⟨gl, 0, none⟩), .agg (evC e).toArray] w fun x w' =>
      (1024 ≤ n ∧ x = .returned (.int .i64 3) ∧ Mem G w0 w' (⟨some gl, 122, [sl ob n cap], 1⟩ :: ⟨ob, 64, A, cap * 33⟩ :: L)) ∨
      (n < 1024 ∧ x = .returned (.int .i64 0) ∧ ∃ ob' cap', n + 1 ≤ cap' ∧ cap' ≤ maxLen ∧ Mem G w0 w' (⟨some gl, 122, [sl ob' (n + 1) cap'], 1⟩ :: ⟨ob', 64, A ++ evC e, cap' * 33⟩ :: L)) := by
  have hcl := evC_len he
  have hco := evC_one e
  generalize evC e = C at *
  have HA := Lib.hid hA
  clear hA
  go_enter Try.func51, Try.ntmps51
  by_cases hbig : 1024 ≤ n
  · have hi : (1024 : Int) ≤ (n : Int) := by omega
    go_wp2_with (first
      | ((with_reducible refine gL_box (dst := some 3) hM ?_); refine ⟨_, C, 33, rfl, rfl, hcl, ?_⟩; intro g3 _ hM2; clear hM; have hM := hM2; clear hM2)
      | ((with_reducible refine gL_load ?_); refine ⟨_, _, rfl, hM.loads_one (.tail _ (.head _)) (on_of rfl) rfl, ?_⟩))
    go_ret
    exact .inl ⟨hbig, rfl, hM.drop⟩
  · have hi : ¬ (1024 : Int) ≤ (n : Int) := by omega
    go_wp2_with (first
      | ((with_reducible refine gL_box (dst := some 3) hM ?_); refine ⟨_, C, 33, rfl, rfl, hcl, ?_⟩; intro g3 _ hM2; clear hM; have hM := hM2; clear hM2)
      | ((with_reducible refine gL_load ?_); refine ⟨_, _, rfl, hM.loads_one (.tail _ (.head _)) (on_of rfl) rfl, ?_⟩))
    rename_i w5 K1 hK1
    try simp only [Act.put, List.setIfInBounds_toArray, List.set_cons_succ, List.set_cons_zero]
    refine wp_region_writer 7 (by decide) [0] (fun c vals => ⟨#[(Value.pointer (some ⟨gl, 0, none⟩) : Value), c 1, c 2, (Value.pointer (some ⟨g3, 0, none⟩) : Value), c 4, c 5, c 6, c 7, c 8, c 9, c 10, vals 0, vals 1, vals 2, vals 3, vals 4, vals 5, vals 6, vals 7, c 19, c 20], []⟩) (fun t => [undef, _, _, undef, _, _, _, _, _, _, _, undef, undef, undef, undef, undef, undef, undef, undef, _, _].getD t undef) (fun i => [_, _, _, _, _, _, _, _].getD i undef) (by kernel_rfl)
      [[], [], [1], [1, 2], [1, 2, 3], [], [5], [1, 2, 3, 4, 5, 6], [0, 1, 2, 3, 4, 5, 6, 7], [0, 1, 2, 3, 4, 5, 6, 7, 8], [0, 1, 2, 3, 4, 5, 6, 7, 8, 9]] (by kernel_rfl) (by kernel_rfl) (fun _ => True) trivial
      [fun x _ => x = (Value.pointer (some ⟨gl, 0, none⟩) : Value),
       fun x _ => x = (Value.pointer (some ⟨gl, 0, none⟩) : Value),
       fun x _ => x = (Value.pointer (some ⟨gl, 0, none⟩) : Value),
       fun x _ => x = (Value.pointer (some ⟨gl, 0, none⟩) : Value),
       fun x _ => x = (sl ob n cap : Value),
       fun x _ => x = (Value.agg C.toArray : Value),
       fun (xx : Value) (ww : World) => NewRow w5.heap.size 64 ww xx C 1]
      ⟨fun _ _ _ h _ => h, fun _ _ _ h _ => h, fun _ _ _ h _ => h, fun _ _ _ h _ => h, fun _ _ _ h _ => h, fun _ _ _ h _ => h, fun _ _ _ h hb => h.adds hb, trivial⟩
      [fun x => x = (Value.pointer (some ⟨gl, 0, none⟩) : Value), fun x => x = (Value.pointer (some ⟨gl, 0, none⟩) : Value), fun x => x = (Value.pointer (some ⟨gl, 0, none⟩) : Value), fun x => x = (Value.pointer (some ⟨gl, 0, none⟩) : Value), fun x => x = (sl ob n cap : Value), fun x => x = (Value.agg C.toArray : Value), fun _ => True]
      (fun i => match i with | 0 => fun _ _ _ h => h | 1 => fun _ _ _ h => h | 2 => fun _ _ _ h => h | 3 => fun _ _ _ h => h | 4 => fun _ _ _ h => h | 5 => fun _ _ _ h => h | 6 => fun _ _ _ h => trivial | (_ + 7) => fun _ _ h _ => absurd h (by omega))
      (fun v w' => ∃ ob' cap', v = sl ob' (n + 1) cap' ∧ n + 1 ≤ cap' ∧ cap' ≤ maxLen ∧ Mem G w0 w' (⟨some g3, 64, C, 33⟩ :: ⟨some gl, 122, [sl ob n cap], 1⟩ :: ⟨ob', 64, A ++ C, cap' * 33⟩ :: L))
      ⟨?_, ?_, ?_, ?_, ?_, ?_, ?_, trivial⟩ ?_ ?_ ?_
    · refine showA_op 0 (by intro _ _ _; kernel_rfl) rfl rfl (fun c vals w hC hD => ?_)
      clear hD
      refine makes1 (x := .tmp 0) (X := Value.pointer (some ⟨gl, 0, none⟩)) (by kernel_rfl : _ = (Value.pointer (some ⟨gl, 0, none⟩) : Value)) (fun ρ rc rf q0 => ?_)
      exact makes_move (.inl rfl) q0 ⟨Adds.refl _, rfl⟩
    · refine showA_op 1 (by intro _ _ _; kernel_rfl) rfl rfl (fun c vals w hC hD => ?_)
      clear hD
      refine makes1 (x := .tmp 0) (X := Value.pointer (some ⟨gl, 0, none⟩)) (by kernel_rfl : _ = (Value.pointer (some ⟨gl, 0, none⟩) : Value)) (fun ρ rc rf q0 => ?_)
      exact makes_move (.inl rfl) q0 ⟨Adds.refl _, rfl⟩
    · refine showA_op 2 (by intro _ _ _; kernel_rfl) rfl rfl (fun c vals w hC hD => ?_)
      have h1 : vals 1 = .pointer (some ⟨gl, 0, none⟩) := hD 1 rfl
      clear hD
      refine makes1 (x := .tmp 12) (X := Value.pointer (some ⟨gl, 0, none⟩)) ((by kernel_rfl : _ = vals 1).trans h1) (fun ρ rc rf q12 => ?_)
      clear h1
      refine makes_value (v := Value.pointer (some ⟨gl, 0, none⟩)) ?_ ⟨Adds.refl _, rfl⟩
      go_simp
      all_goals first | done | rfl | (rw [if_pos (by omega)]; refine congrArg (fun x => Result.ok (Next.value (Value.pointer (some ⟨_, x, none⟩))) _) ?_; omega) | (rw [wrapP_i64]; omega) | go_num | (simp; done) | (simp; omega) | (congr 1; first | rfl | (rw [wrapP_i64]; omega) | (congr 1; first | rfl | (simp; done) | (simp; omega) | (congr 2; omega) | go_num))
    · refine showA_op 3 (by intro _ _ _; kernel_rfl) rfl rfl (fun c vals w hC hD => ?_)
      have h2 : vals 2 = .pointer (some ⟨gl, 0, none⟩) := hD 2 rfl
      clear hD
      refine makes1 (x := .tmp 13) (X := Value.pointer (some ⟨gl, 0, none⟩)) ((by kernel_rfl : _ = vals 2).trans h2) (fun ρ rc rf q13 => ?_)
      clear h2
      refine makes_value (v := Value.pointer (some ⟨gl, 0, none⟩)) ?_ ⟨Adds.refl _, rfl⟩
      go_simp
      all_goals first | done | rfl | (rw [if_pos (by omega)]; refine congrArg (fun x => Result.ok (Next.value (Value.pointer (some ⟨_, x, none⟩))) _) ?_; omega) | (rw [wrapP_i64]; omega) | go_num | (simp; done) | (simp; omega) | (congr 1; first | rfl | (rw [wrapP_i64]; omega) | (congr 1; first | rfl | (simp; done) | (simp; omega) | (congr 2; omega) | go_num))
    · refine showA_op 4 (by intro _ _ _; kernel_rfl) rfl rfl (fun c vals w hC hD => ?_)
      have h3 : vals 3 = .pointer (some ⟨gl, 0, none⟩) := hD 3 rfl
      clear hD
      refine makes1 (x := .tmp 14) (X := Value.pointer (some ⟨gl, 0, none⟩)) ((by kernel_rfl : _ = vals 3).trans h3) (fun ρ rc rf q14 => ?_)
      clear h3
      exact makes_load ((hM.adds hC).loads_one (.tail _ (.head _)) (on_of rfl) rfl) rfl q14 ⟨Adds.refl _, rfl⟩
    · refine showA_op 5 (by intro _ _ _; kernel_rfl) rfl rfl (fun c vals w hC hD => ?_)
      clear hD
      refine makes1 (x := .tmp 3) (X := Value.pointer (some ⟨g3, 0, none⟩)) (by kernel_rfl : _ = (Value.pointer (some ⟨g3, 0, none⟩) : Value)) (fun ρ rc rf q3 => ?_)
      exact makes_load ((hM.adds hC).loads_all (.head _) (ag_of rfl) hcl) rfl q3 ⟨Adds.refl _, rfl⟩
    · refine showA_op 6 (by intro _ _ _; kernel_rfl) rfl rfl (fun c vals w hC hD => ?_)
      have h5 : vals 5 = .agg C.toArray := hD 5 rfl
      clear hD
      refine makes1 (x := .tmp 16) (X := Value.agg C.toArray) ((by kernel_rfl : _ = vals 5).trans h5) (fun ρ rc rf q16 => ?_)
      clear h5
      exact makes_buildSlice (C := C) Try.underlying58 (el_of rfl) (by decide) (by decide) rfl rfl (by simp only [List.map, q16, List.flatMap_cons, List.flatMap_nil, List.append_nil]; rfl) (by simp only [List.map, q16, List.mem_cons, List.not_mem_nil, or_false]; rintro _ rfl; exact List.size_toArray.trans hcl.eq) ⟨(Below.refl _ _).alloc (Nat.le_refl _) _, w.heap.size, rfl, hC.size, _, World.alloc_heap_new _ _⟩
    · intro i o hi hF ho vals w' K hK
      obtain rfl : i = 0 := by simpa using hF
      all_goals (cases ho; exact free_move rfl rfl rfl hK (by intro _; kernel_rfl) rfl)
    · intro o ho vals w' hC hD K hK
      cases ho
      have h1 : vals 1 = Value.pointer (some ⟨gl, 0, none⟩) := hD 1 (by decide) rfl
      have h2 : vals 2 = Value.pointer (some ⟨gl, 0, none⟩) := hD 2 (by decide) rfl
      have h3 : vals 3 = Value.pointer (some ⟨gl, 0, none⟩) := hD 3 (by decide) rfl
      have h4 : vals 4 = sl ob n cap := hD 4 (by decide) rfl
      have h5 : vals 5 = Value.agg C.toArray := hD 5 (by decide) rfl
      have h6 : (fun (xx : Value) (ww : World) => NewRow w5.heap.size 64 ww xx C 1) (vals 6) w' := hD 6 (by decide) rfl
      clear hD
      refine writer_of rfl hK (by intro _; kernel_rfl) (fun K2 hK2 => ?_)
      clear hK
      exact (hM.adds hC).wp_append rfl ((by kernel_rfl : _ = vals 4).trans h4) (us_of rfl) (el_of rfl) (fun _ _ => .there _ (.there _ (.here _ _ _))) rfl HA.out hcap (by kernel_rfl : _ = vals 6) h6.src (by have := hcl.eq; omega) hco (by simp only [maxLen]; omega) (by omega) (fun ob' cap' w2 hM2 h1 h2 => hK2 _ _ ⟨ob', cap', rfl, h1, h2, hM2⟩)
    intro vals w' hS hΦ
    have h0 : vals 0 = .pointer (some ⟨gl, 0, none⟩) := hΦ 0 (by decide)
    have h4 : vals 4 = sl ob n cap := hΦ 4 (by decide)
    clear hΦ
    simp only [List.drop_succ_cons, List.drop_zero]
    simp only [h0, h4]
    clear h0 h4
    obtain ⟨ob', cap', e7, h1, h2, hM2⟩ := hS
    clear hM
    have hM := hM2
    clear hM2
    rw [e7]
    clear e7
    go_wp2_with (first
      | ((with_reducible refine gL_store hM ?_); refine ⟨_, _, _, rfl, rfl, hM.stores_one (.there _ (.here _ _ _)) (on_of rfl) (by simp) rfl rfl, ?_⟩; intro _ hM2; clear hM; have hM := hM2; clear hM2))
    go_ret
    exact .inr ⟨by omega, rfl, ob', cap', h1, h2, hM.drop⟩
end Go.Proofs.Ytejmbkljnhnklaa

namespace Go.Proofs.Ytejmbkljnhnklaa
open Go.RowKit Go.PK
theorem evs_get {l : List Ev} (h : ∀ e ∈ l, Len e.1 32) {j : Nat} {a : Ev} (hj : l[j]? = some a) {i : Nat} (hi : i < 33) : (evs l)[j * 33 + i]? = (evC a)[i]? := by
  induction l generalizing j with
  | nil => simp at hj
  | cons e l ih =>
    have he := (evC_len (h e (by simp))).eq
    rw [evs, List.flatMap_cons]
    cases j with
    | zero =>
      simp at hj
      subst hj
      rw [Nat.zero_mul, Nat.zero_add, List.getElem?_append_left (by omega)]
    | succ j =>
      rw [List.getElem?_append_right (by omega), he, show (j + 1) * 33 + i - 33 = j * 33 + i from by omega]
      exact ih (fun x hx => h x (by simp [hx])) (by simpa using hj)
theorem evs_nil {l : List Ev} (h : evs l = []) : l = [] := by
  cases l with
  | nil => rfl
  | cons e l =>
    rw [evs, List.flatMap_cons, evC] at h
    simp at h
/-- an owned row of events, read -/
theorem evs_elems {G : List Nat} {w0 w : World} {L : List Blk} {ob : Option Nat} {N : Nat} {l : List Ev} (hM : Mem G w0 w L) (hb : ⟨ob, 64, evs l, N⟩ ∈ L) (h : ∀ e ∈ l, Len e.1 32) : Elems rEv w (ob.map fun g => ⟨g, 0, none⟩) l := by
  intro j a hj
  have hh := hM.holds _ hb
  cases ob with
  | none =>
    have := evs_nil hh.1
    subst this
    simp at hj
  | some g =>
    have ha := h a (List.mem_of_getElem? hj)
    refine ⟨g, 0, rfl, hh.lt rfl, evC a, ⟨_, _, rfl, ⟨rfl, ha.eq⟩, rfl⟩, fun i hi => ?_⟩
    rw [Nat.zero_add]
    have h2 := evs_get h hj (show i < 33 from hi)
    have hlt : i < (evC a).length := by rw [(evC_len ha).eq]; exact hi
    rw [List.getElem?_eq_getElem hlt] at h2 ⊢
    exact hM.cell hb h2
set_option maxRecDepth 100000 in
set_option maxHeartbeats 4000000 in
theorem log_Register (w0 : World) (gl : Nat) (ob : Option Nat) (n cap : Nat) (l : List Ev) (hR : Row w0 gl 122 [sl ob n cap]) (hE : Elems rEv w0 (ob.map fun g => ⟨g, 0, none⟩) l) (hn : Len l n) (hlen : n ≤ 140737488355000) (T : List UInt8) (hT : Chain.reg l = T) :
    Calls Try.prog 37 #[.pointer (some ⟨gl, 0, none⟩)] w0 fun x w' => x = .returned (.agg (T.map B8).toArray) ∧ Below w0.heap.size w0 w' := by
  have hTl : Len T 32 := by rw [← hT]; exact Len.of (Chain.reg_len _)
  have hreg : ∀ w, Adds w0 w → _ := fun w hw => chain_register w (ob.map fun g => ⟨g, 0, none⟩) cap l (hE.adds hw) (by rw [hn.eq]; exact hlen) T hT
  rw [hn.eq] at hreg
  have hld : ∀ w, Adds w0 w → Loads Try.prog w 58 ⟨gl, 0, none⟩ (sl ob n cap) := fun w hw => loads_cell (by rw [cell_below hw (show gl < w0.heap.size from hR.lt)]; exact hR.cell rfl) (on_of rfl)
  clear hT hE hn
  have hM := Mem.start w0
  go_enter Try.func37, Try.ntmps37
  go_wp2_with (first
    | ((first | ((with_reducible refine gL_alloc (dst := some 2) hM ?_); refine ⟨_, _, (zr_of rfl), ?_⟩) | ((with_reducible refine gL_box (dst := some 2) hM ?_); refine ⟨_, _, _, rfl, rfl, (by first | assumption | exact Len.map (by assumption) _ | rfl | exact Len.map (by rfl) _ | exact Len.of (by simp; done)), ?_⟩)); intro g2 _ hM2; clear hM; have hM := hM2; clear hM2)
    | ((with_reducible refine gL_load ?_); refine ⟨_, _, rfl, hld _ hM.done, ?_⟩)
    | (go_at_call 72; (with_reducible refine (hreg _ hM.done).mono ?_); rintro _ _ ⟨rfl, B1⟩; replace hM := hM.adds B1; clear B1)
    | ((with_reducible refine gL_store hM ?_); refine ⟨_, _, _, rfl, rfl, hM.stores_all (by (repeat (first | exact .here _ _ _ | apply Has.there)); done) (ag_of rfl) (hTl.map _) (by rfl) B8_one, ?_⟩; intro _ hM2; clear hM; have hM := hM2; clear hM2))
  exact hM.ret_cell rfl rfl rfl (by (repeat (first | exact .head _ | apply List.Mem.tail)); done) (ag_of rfl) (hTl.map _) ⟨rfl, hM.done⟩
set_option maxRecDepth 100000 in
set_option maxHeartbeats 4000000 in
theorem log_Quote (w0 : World) (gl : Nat) (ob : Option Nat) (n cap : Nat) (l : List Ev) (hR : Row w0 gl 122 [sl ob n cap]) (hE : Elems rEv w0 (ob.map fun g => ⟨g, 0, none⟩) l) (hn : Len l n) (hlen : n ≤ 140737488355000)
    (vk : Value) (key : List UInt8) (hvk : Bytes w0 vk key) (hk : key.length ≤ 140737488355000) (v1 : Value) (nonce : List UInt8) (hv1 : Bytes w0 v1 nonce) (h1 : nonce.length ≤ 140737488355000) (T : List UInt8) (hT : Chain.quote key nonce l = T) :
    Calls Try.prog 48 #[.pointer (some ⟨gl, 0, none⟩), vk, v1] w0 fun x w' => x = .returned (.agg (T.map B8).toArray) ∧ Below w0.heap.size w0 w' := by
  have hTl : Len T 32 := by rw [← hT]; exact Len.of (Chain.quote_len _ _ _)
  have hreg : ∀ w, Adds w0 w → _ := fun w hw => chain_quote w vk key (hvk.below hw (Nat.le_refl _)) hk v1 nonce (hv1.below hw (Nat.le_refl _)) h1 (ob.map fun g => ⟨g, 0, none⟩) cap l (hE.adds hw) (by rw [hn.eq]; exact hlen) T hT
  rw [hn.eq] at hreg
  have hld : ∀ w, Adds w0 w → Loads Try.prog w 58 ⟨gl, 0, none⟩ (sl ob n cap) := fun w hw => loads_cell (by rw [cell_below hw (show gl < w0.heap.size from hR.lt)]; exact hR.cell rfl) (on_of rfl)
  clear hT hE hn
  have hM := Mem.start w0
  go_enter Try.func48, Try.ntmps48
  go_wp2_with (first
    | ((first | ((with_reducible refine gL_alloc (dst := some 6) hM ?_); refine ⟨_, _, (zr_of rfl), ?_⟩) | ((with_reducible refine gL_box (dst := some 6) hM ?_); refine ⟨_, _, _, rfl, rfl, (by first | assumption | exact Len.map (by assumption) _ | rfl | exact Len.map (by rfl) _ | exact Len.of (by simp; done)), ?_⟩)); intro g6 _ hM2; clear hM; have hM := hM2; clear hM2)
    | ((with_reducible refine gL_load ?_); refine ⟨_, _, rfl, hld _ hM.done, ?_⟩)
    | (go_at_call 75; (with_reducible refine (hreg _ hM.done).mono ?_); rintro _ _ ⟨rfl, B1⟩; replace hM := hM.adds B1; clear B1)
    | ((with_reducible refine gL_store hM ?_); refine ⟨_, _, _, rfl, rfl, hM.stores_all (by (repeat (first | exact .here _ _ _ | apply Has.there)); done) (ag_of rfl) (hTl.map _) (by rfl) B8_one, ?_⟩; intro _ hM2; clear hM; have hM := hM2; clear hM2))
  exact hM.ret_cell rfl rfl rfl (by (repeat (first | exact .head _ | apply List.Mem.tail)); done) (ag_of rfl) (hTl.map _) ⟨rfl, hM.done⟩
set_option maxRecDepth 100000 in
set_option maxHeartbeats 4000000 in
theorem chain_Check (w0 : World) (vk : Value) (key : List UInt8) (hvk : Bytes w0 vk key) (hk : key.length ≤ 140737488355000) (v1 : Value) (nonce : List UInt8) (hv1 : Bytes w0 v1 nonce) (h1 : nonce.length ≤ 140737488355000) (ao : Option Addr) (cap : Nat) (l : List Ev) (hE : Elems rEv w0 ao l) (hlen : l.length ≤ 140737488355000)
    (q : List UInt8) (hq : Len q 32) (ec : Int) (hc : Chain.check key nonce l q = ec) :
    Calls Try.prog 41 #[vk, v1, .slice ao l.length cap, .agg (q.map B8).toArray] w0 fun x w' => x = .returned (.int .i64 ec) ∧ Below w0.heap.size w0 w' := by
  obtain ⟨T, hT⟩ : ∃ T, Chain.quote key nonce l = T := ⟨_, rfl⟩
  have hTl : Len T 32 := by rw [← hT]; exact Len.of (Chain.quote_len _ _ _)
  have hquo : ∀ w, Adds w0 w → _ := fun w hw => chain_quote w vk key (hvk.below hw (Nat.le_refl _)) hk v1 nonce (hv1.below hw (Nat.le_refl _)) h1 ao cap l (hE.adds hw) hlen T hT
  rw [Chain.check, hT] at hc
  clear hT
  obtain ⟨b, hb⟩ : ∃ b, (T == q) = b := ⟨_, rfl⟩
  have heq : ∀ w v1 v2, Bytes w v1 T → Bytes w v2 q → _ := fun w v1 v2 h1 h2 => mac_Equal w v1 v2 T q h1 h2 b hb
  rw [hb] at hc
  clear hb
  obtain ⟨n, hn⟩ : ∃ n, n = l.length := ⟨_, rfl⟩
  rw [← hn] at hc hquo ⊢
  clear hn hlen hE
  have hM := Mem.start w0
  go_enter Try.func41, Try.ntmps41
  by_cases hbig : n > 1024
  · have hi : (1024 : Int) < (n : Int) := by omega
    rw [if_pos hbig] at hc
    subst hc
    go_wp2_with (first | ((with_reducible refine gL_box (dst := some 7) hM ?_); refine ⟨_, q.map B8, 32, rfl, rfl, (hq.map _), ?_⟩; intro g7 _ hM2; clear hM; have hM := hM2; clear hM2))
    go_ret
    exact ⟨rfl, hM.done⟩
  · have hi : ¬ (1024 : Int) < (n : Int) := by omega
    rw [if_neg hbig] at hc
    go_wp2_with (first
      | ((with_reducible refine gL_box (dst := some 7) hM ?_); refine ⟨_, q.map B8, 32, rfl, rfl, (hq.map _), ?_⟩; intro g7 _ hM2; clear hM; have hM := hM2; clear hM2)
      | ((first | ((with_reducible refine gL_alloc (dst := some 9) hM ?_); refine ⟨_, _, (zr_of rfl), ?_⟩) | ((with_reducible refine gL_box (dst := some 9) hM ?_); refine ⟨_, _, _, rfl, rfl, (by first | assumption | exact Len.map (by assumption) _ | rfl | exact Len.map (by rfl) _ | exact Len.of (by simp; done)), ?_⟩)); intro g9 _ hM2; clear hM; have hM := hM2; clear hM2)
      | (go_at_call 75; (with_reducible refine (hquo _ hM.done).mono ?_); rintro _ _ ⟨rfl, B1⟩; replace hM := hM.adds B1; clear B1)
      | ((with_reducible refine gL_store hM ?_); refine ⟨_, _, _, rfl, rfl, hM.stores_all (.here _ _ _) (ag_of rfl) (hTl.map _) (by rfl) B8_one, ?_⟩; intro _ hM2; clear hM; have hM := hM2; clear hM2))
    rename_i w5 K1 hK1
    try simp only [Act.put, List.setIfInBounds_toArray, List.set_cons_succ, List.set_cons_zero]
    refine wp_region_tail 4 (by decide) (fun c vals => ⟨#[c 0, c 1, c 2, c 3, c 4, c 5, c 6, (Value.pointer (some ⟨g7, 0, none⟩) : Value), c 8, (Value.pointer (some ⟨g9, 0, none⟩) : Value), c 10, c 11, c 12, c 13, c 14, c 15, c 16, vals 0, vals 1, vals 2, vals 3], []⟩) (fun t => [_, _, _, _, _, _, _, undef, _, undef, _, _, _, _, _, _, _, undef, undef, undef, undef].getD t undef) (fun i => [_, _, _, _].getD i undef) (by kernel_rfl)
      [[], [], [0, 1], [0, 1, 2]] (by kernel_rfl) (by kernel_rfl) (fun _ => True) trivial
      [fun x _ => x = (Value.slice (some ⟨g9, 0, none⟩) 32 32 : Value),
       fun x _ => x = (Value.slice (some ⟨g7, 0, none⟩) 32 32 : Value),
       fun x _ => x = (Value.bool b : Value),
       fun x _ => x = (Value.bool (!b) : Value)]
      ⟨fun _ _ _ h _ => h, fun _ _ _ h _ => h, fun _ _ _ h _ => h, fun _ _ _ h _ => h, trivial⟩ []
      ⟨?_, ?_, ?_, ?_, trivial⟩ ?_
    · refine showA_op 0 (by intro _ _ _; kernel_rfl) rfl rfl (fun c vals w hC hD => ?_)
      clear hD
      refine makes1 (x := .tmp 9) (X := Value.pointer (some ⟨g9, 0, none⟩)) (by kernel_rfl : _ = (Value.pointer (some ⟨g9, 0, none⟩) : Value)) (fun ρ rc rf q9 => ?_)
      exact makes_slice (slice_arr_all (t := 24) (ua_of rfl) (by exact elOne rfl)) rfl q9 rfl rfl rfl ⟨Adds.refl _, rfl⟩
    · refine showA_op 1 (by intro _ _ _; kernel_rfl) rfl rfl (fun c vals w hC hD => ?_)
      clear hD
      refine makes1 (x := .tmp 7) (X := Value.pointer (some ⟨g7, 0, none⟩)) (by kernel_rfl : _ = (Value.pointer (some ⟨g7, 0, none⟩) : Value)) (fun ρ rc rf q7 => ?_)
      exact makes_slice (slice_arr_all (t := 24) (ua_of rfl) (by exact elOne rfl)) rfl q7 rfl rfl rfl ⟨Adds.refl _, rfl⟩
    · refine showA_op 2 (by intro _ _ _; kernel_rfl) rfl rfl (fun c vals w hC hD => ?_)
      have h0 : vals 0 = .slice (some ⟨g9, 0, none⟩) 32 32 := hD 0 rfl
      have h1 : vals 1 = .slice (some ⟨g7, 0, none⟩) 32 32 := hD 1 rfl
      clear hD
      refine makes2 (x := .tmp 17) (X := Value.slice (some ⟨g9, 0, none⟩) 32 32) (y := .tmp 18) (Y := Value.slice (some ⟨g7, 0, none⟩) 32 32) ((by kernel_rfl : _ = vals 0).trans h0) ((by kernel_rfl : _ = vals 1).trans h1) (fun ρ rc rf q17 q18 => ?_)
      clear h0 h1
      refine makes_call (heq _ (.slice (some ⟨g9, 0, none⟩) 32 32) (.slice (some ⟨g7, 0, none⟩) 32 32) ((hM.adds hC).whole (ob := some g9) (.head _) hTl (by decide)) ((hM.adds hC).whole (ob := some g7) (.tail _ (.head _)) hq (by decide))) ?_ (by rintro e w' ⟨rfl, hb⟩; exact ⟨_, rfl, hb, rfl⟩)
      go_simp
    · refine showA_op 3 (by intro _ _ _; kernel_rfl) rfl rfl (fun c vals w hC hD => ?_)
      have h2 : vals 2 = .bool b := hD 2 rfl
      clear hD
      refine makes1 (x := .tmp 19) (X := Value.bool b) ((by kernel_rfl : _ = vals 2).trans h2) (fun ρ rc rf q19 => ?_)
      clear h2
      refine makes_value (v := Value.bool (!b)) ?_ ⟨Adds.refl _, rfl⟩
      go_simp
      all_goals first | done | rfl | (rw [if_pos (by omega)]; refine congrArg (fun x => Result.ok (Next.value (Value.pointer (some ⟨_, x, none⟩))) _) ?_; omega) | (rw [wrapP_i64]; omega) | go_num | (simp; done) | (simp; omega) | (congr 1; first | rfl | (rw [wrapP_i64]; omega) | (congr 1; first | rfl | (simp; done) | (simp; omega) | (congr 2; omega) | go_num))
    intro vals w' hC hΦ hne
    have h3 : vals 3 = .bool (!b) := hΦ 3 (by decide)
    clear hΦ hne
    simp only [List.getD_eq_getElem?_getD, List.getElem?_cons_zero, List.getElem?_cons_succ, Option.getD_some, List.drop_succ_cons, List.drop_zero]
    simp only [h3]
    clear h3
    try simp only [tuple_undef]
    replace hM := hM.adds hC
    clear hC
    cases b with
    | true =>
      go_wp2_with fail
      go_ret
      exact ⟨by rw [← hc]; rfl, hM.done⟩
    | false =>
      go_wp2_with fail
      go_ret
      exact ⟨by rw [← hc]; rfl, hM.done⟩
end Go.Proofs.Ytejmbkljnhnklaa

namespace Go.PK
open Go.RowKit
section
variable {P : Program}
/-- x[:n:n] of a slice -/
theorem slice_clip {t e n cap : Nat} (hu : P.underlying t = some (.slice e)) {z : Nat} (he : (P.info? e).map (·.size) = some z) {ao : Option Addr} (h : n ≤ cap) :
    Sliced P t (.slice ao n cap) none (some (.int .i64 (n : Int))) (some (.int .i64 (n : Int))) (.slice ao n n) := by
  intro w
  cases hq : P.info? e with
  | none => simp [hq] at he
  | some i =>
    have hb : (Instr.sliceBounds true n cap none (some (.int .i64 (n : Int))) (some (.int .i64 (n : Int)))).run P w = .ok (0, n, n) w := by
      have : (n : Int) ≤ cap := by omega
      simp [Instr.sliceBounds, run_sliceBound, this]
    simp only [Instr.sliceAt, Instr.slice, Sem.run_bind, run_underlying hu, Sem.run_pure, Result.andThen_ok, hb, sizeOf, typeInfo]
    simp [hq]
    intro h0
    cases ao <;> simp [Addr.add]
end
theorem Src.adds {w w' : World} {u : Value} {m : Nat} {C : List Value} (h : Src w u m C) (hb : Adds w w') : Src w' u m C := by
  rcases h with ⟨ad, c, e, h⟩ | h
  · exact .inl ⟨ad, c, e, fun j v hj => (Grows.of_adds hb (Nat.le_refl _)).cell (h j v hj)⟩
  · exact .inr h
end Go.PK
namespace Go.Proofs.Ytejmbkljnhnklaa
open Go.RowKit Go.PK
set_option maxRecDepth 100000 in
set_option maxHeartbeats 4000000 in
theorem ev_Clip (w0 : World) (ao : Option Addr) (n cap : Nat) (h : n ≤ cap) :
    Calls Try.prog 73 #[.slice ao n cap] w0 fun x w' => x = .returned (.slice ao n n) ∧ Below w0.heap.size w0 w' := by
  have hM := Mem.start w0
  go_enter Try.func73, Try.ntmps73
  go_wp2_with (first | ((with_reducible refine gL_slice ?_); refine ⟨_, slice_clip (e := 64) (us_of rfl) (z := 33) (by kernel_rfl) h, ?_⟩))
  go_ret
  exact ⟨rfl, hM.done⟩
set_option maxRecDepth 100000 in
set_option maxHeartbeats 4000000 in
theorem ev_Clone (w0 : World) (ob : Option Nat) (n cap : Nat) (A : List Value) (hA : A.length = n * 33) (hone : ∀ v ∈ A, v.oneCell' = true) (hn : n ≤ 140737488355) (hsrc : Src w0 (sl ob n cap) n A) :
    Calls Try.prog 74 #[sl ob n cap] w0 fun x w' => ∃ ob' cap', x = .returned (sl ob' n cap') ∧ n ≤ cap' ∧ Mem [] w0 w' [⟨ob', 64, A, cap' * 33⟩] := by
  have hM := Mem.start w0
  have HA := Lib.hid hA
  clear hA
  go_enter Try.func74, Try.ntmps74
  cases ob with
  | none =>
    have hm : n = 0 ∧ A = [] := by
      rcases hsrc with ⟨_, _, h, _⟩ | ⟨h, h0, h1⟩
      · cases h
      · exact ⟨h0, h1⟩
    obtain ⟨rfl, rfl⟩ := hm
    have hE : ∀ w, (binOp .eql 58 (.slice none 0 cap) (.slice none 0 0)).run Try.prog w = .ok (.bool true) w := fun w => Lib.run_eql_slice_nil w 58 64 none 0 cap 0 0 (us_of rfl)
    rw [show sl none 0 cap = .slice none 0 cap from rfl]
    go_wp2_with fail
    go_ret
    exact ⟨none, 0, rfl, Nat.le_refl _, by rw [Nat.zero_mul]; exact hM.addNil _⟩
  | some g =>
    have hE : ∀ w, (binOp .eql 58 (.slice (some ⟨g, 0, none⟩) n cap) (.slice none 0 0)).run Try.prog w = .ok (.bool false) w := fun w => Lib.run_eql_slice_nil w 58 64 (some ⟨g, 0, none⟩) n cap 0 0 (us_of rfl)
    rw [show sl (some g) n cap = .slice (some ⟨g, 0, none⟩) n cap from rfl] at hsrc ⊢
    have hsrc0 : ∀ w, Adds w0 w → _ := fun w hw => hsrc.adds hw
    clear hsrc
    go_wp2_with (first
      | ((with_reducible refine gL_buildEmpty hM ?_); refine ⟨_, _, _, (us_of rfl), (el_of rfl), ?_⟩; intro g5 _ hM2; clear hM; have hM := hM2; clear hM2)
      | (refine wpList_plain rfl fun K hk => ?_; refine hM.wp_append (size := 33) (C := []) (N := 0) (n := 0) (cap := 0) (m := n) (news := A) (ob := some g5) (L' := fun ob' cap' => [⟨ob', 64, [] ++ A, cap' * 33⟩]) rfl rfl (us_of rfl) (el_of rfl) (fun _ _ => .here _ _ _) rfl rfl (by decide) rfl (hsrc0 _ hM.done) HA.out hone (by simp only [maxLen]; omega) (by omega) ?_; intro ob' cap' w2 hM2 hd1 hd2; refine hk _ _ ?_))
    go_ret
    rw [Nat.zero_add] at hd1
    exact ⟨ob', cap', rfl, hd1, hM2⟩
set_option maxRecDepth 100000 in
set_option maxHeartbeats 4000000 in
theorem log_Events (w0 : World) (gl : Nat) (ob : Option Nat) (n cap : Nat) (A : List Value) (hR : Row w0 gl 122 [sl ob n cap]) (hA : A.length = n * 33) (hone : ∀ v ∈ A, v.oneCell' = true) (hn : n ≤ 140737488355) (hsrc : Src w0 (sl ob n cap) n A) :
    Calls Try.prog 40 #[.pointer (some ⟨gl, 0, none⟩)] w0 fun x w' => ∃ ob' N, x = .returned (sl ob' n n) ∧ n * 33 ≤ N ∧ Mem [] w0 w' [⟨ob', 64, A, N⟩] := by
  have hclone : ∀ w, Adds w0 w → _ := fun w hw => ev_Clone w ob n cap A hA hone hn (hsrc.adds hw)
  have hld : ∀ w, Adds w0 w → Loads Try.prog w 58 ⟨gl, 0, none⟩ (sl ob n cap) := fun w hw => loads_cell (by rw [cell_below hw (show gl < w0.heap.size from hR.lt)]; exact hR.cell rfl) (on_of rfl)
  clear hsrc hA
  have hM := Mem.start w0
  go_enter Try.func40, Try.ntmps40
  go_wp2_with (first | ((with_reducible refine gL_load ?_); refine ⟨_, _, rfl, hld _ hM.done, ?_⟩))
  refine (hclone _ hM.done).mono ?_
  rintro _ w2 ⟨ob', cap', rfl, hc, hM3⟩
  go_wp2_with fail
  refine (ev_Clip w2 (ob'.map fun g => ⟨g, 0, none⟩) n cap' hc).mono ?_
  rintro _ w3 ⟨rfl, hB⟩
  go_wp2_with fail
  go_ret
  refine ⟨ob', cap' * 33, rfl, by omega, ?_⟩
  have := (hM.join hM3 (by simp)).adds hB
  exact this
end Go.Proofs.Ytejmbkljnhnklaa

namespace Go.PK.Chain
/-- the event of zeros -/
def ev0 : Ev := (List.replicate 32 0, 0)
end Go.PK.Chain
namespace Go.PK
open Go.RowKit
section
variable {P : Program} {o : Oper} {w : World} {R : Value → World → Prop} {ρ : Operand → Value}
theorem builds_array0 {ty e m : TypeId} {C : List Value} {n es eb : Nat} (hz : Zr P ty C n) (hu : P.underlying ty = some (.array m e)) (he : El P e es eb) : Builds P ty [] (.agg C.toArray) := by
  intro w
  obtain ⟨z, hz1, hz2, rfl⟩ := hz
  obtain ⟨z', he1, -, -⟩ := he
  cases hq : P.info? ty with
  | none => simp [hq] at hz1
  | some i =>
    have hz' : i.zero = some z := by simpa [hq] using hz1
    cases hr : P.info? e with
    | none => simp [hr] at he1
    | some j => simp [Instr.build, Instr.fill, zeroValue, typeInfo, sizeOf, Sem.run_bind, run_underlying hu, hq, hz', hr, hz2]
variable {Q : Exit → Act → World → Prop} {ops : Array Oper} {rest : List Oper} {a : Act} {G : List Nat} {w0 : World} {L : List Blk} {dst : Option Tmp} {type : TypeId} {pos : String} {after : Array Edge}
theorem gG_build {j : Nat} {want : Bool} {ty : TypeId} {parts : List (Nat × Operand)} (hw : Region.wanted (Oper.mk dst (.build ty parts.toArray) type pos after (some (j, want))) (yielded ops a.tmps) = true) (h : ∃ vals v, (parts.map fun p => (p.1, a.eval p.2)) = vals ∧ Builds P ty vals v ∧ wpList P ops Q rest (a.put dst v) w) :
    wpList P ops Q (Oper.mk dst (.build ty parts.toArray) type pos after (some (j, want)) :: rest) a w := let ⟨_, _, h1, h2, h3⟩ := h; wpList_wanted hw (wp_build_of rfl h1 h2 h3)
theorem gL_buildSlice1 (hM : Mem G w0 w L) {t : TypeId} {x : Operand} (h : ∃ e C size bytes V, P.underlying t = some (.slice e) ∧ El P e size bytes ∧ 1 * size ≤ 16777216 ∧ a.eval x = V ∧ V.cells = C.toArray ∧ Len C size ∧
    ∀ g w', Mem G w0 w' (⟨some g, e, C, size⟩ :: L) → wpList P ops Q rest (a.put dst (.slice (some ⟨g, 0, none⟩) 1 1)) w') :
    wpList P ops Q (Oper.mk dst (.buildSlice t 1 #[(0, x)]) type pos after none :: rest) a w := by
  obtain ⟨e, C, size, bytes, V, hu, hel, hs, hx, hC, hl, h⟩ := h
  refine wpList_plain rfl fun K hk => hM.wp_buildSlice (parts := [(0, x)]) (C := C) rfl hu hel hs (by decide) rfl ?_ ?_ (by rw [Nat.one_mul]) (fun g w' hm => hk _ _ (h g w' hm))
  · simp [hx, hC]
  · intro v hv
    simp [hx] at hv
    subst hv
    rw [hC]
    exact List.size_toArray.trans hl.eq
end
end Go.PK
namespace Go.Proofs.Ytejmbkljnhnklaa
open Go.RowKit Go.PK
set_option maxRecDepth 100000 in
theorem quote_unlike : (Chain.quote [1] [3] [Chain.ev0] == Chain.quote [1] [2] [Chain.ev0]) = false := by decide +kernel
theorem zero_event : Builds Try.prog 64 [] (.agg (evC Chain.ev0).toArray) := fun w => by kernel_rfl
theorem zero_hash : Builds Try.prog 24 [] (.agg ((List.replicate 32 (0 : UInt8)).map B8).toArray) := builds_array0 (n := 32) (C := (List.replicate 32 (0 : UInt8)).map B8) (zr_of rfl) (ua_of rfl) (el_of rfl)
set_option maxRecDepth 100000 in
set_option maxHeartbeats 4000000 in
theorem law16_fixed (w0 : World) : Calls Try.prog 34 #[] w0 fun e w' => e = .returned (.bool true) ∧ Below w0.heap.size w0 w' := by
  have hz1 := zero_event
  have hz2 := zero_hash
  have he0 : Len Chain.ev0.1 32 := rfl
  have hadd : ∀ w gl, Mem [] w0 w [⟨some gl, 122, [sl none 0 0], 1⟩, ⟨none, 64, [], 0⟩] → _ := fun w gl hM => chain_Add gl none 0 0 [] rfl (by decide) (L := []) hM Chain.ev0 he0
  have hev : ∀ _ : Unit, [] ++ evC Chain.ev0 = evs [Chain.ev0] := fun _ => by simp [evs]
  have hev2 : ∀ _ : Unit, evC Chain.ev0 = evs [Chain.ev0] := fun _ => by simp [evs]
  have hgood : ∀ e ∈ [Chain.ev0], Len e.1 32 := fun e h => by simp at h; subst h; rfl
  obtain ⟨E0, hE0⟩ : ∃ E, E = [Chain.ev0] := ⟨_, rfl⟩
  have hE1 : Len E0 1 := by rw [hE0]; rfl
  obtain ⟨T1, hT1⟩ : ∃ T, Chain.quote [1] [2] [Chain.ev0] = T := ⟨_, rfl⟩
  have hTl : Len T1 32 := by rw [← hT1]; exact Len.of (Chain.quote_len _ _ _)
  have hne := quote_unlike
  obtain ⟨M0, hM0⟩ : ∃ M, Chain.meas Chain.ev0 = M := ⟨_, rfl⟩
  have hMl : Len M0 32 := by rw [← hM0]; exact Len.of (Chain.meas_len _)
  obtain ⟨R1, hR1⟩ : ∃ R, Chain.reg [Chain.ev0] = R := ⟨_, rfl⟩
  have hRl : Len R1 32 := by rw [← hR1]; exact Len.of (Chain.reg_len _)
  have hX : Chain.ext (List.replicate 32 0) M0 = R1 := by rw [← hM0, ← hR1]; rfl
  have hme : ∀ w, _ := fun w => chain_Measure w Chain.ev0 he0 M0 hM0
  have hext : ∀ w, _ := fun w => chain_Extend w (List.replicate 32 0) M0 (Len.rep _ _) hMl R1 hX
  clear hM0 hX
  have hcl := evC_len he0
  generalize evC Chain.ev0 = Z at *
  rw [hT1] at hne
  rw [← hE0] at hev hev2 hgood hT1 hne hR1
  clear hE0
  obtain ⟨H0, hH0⟩ : ∃ H, H = List.replicate 32 (0 : UInt8) := ⟨_, rfl⟩
  rw [← hH0] at hz2 hext
  clear hH0
  have hM := Mem.start w0
  go_enter Try.func34, Try.ntmps34
  go_wp2_with fail
  refine (chain_New _).mono ?_
  rintro _ w1 ⟨gl, rfl, hM3⟩
  replace hM := hM.join hM3 (by simp)
  clear hM3
  replace hM := (hM.addNil 64).perm (.swap _ _ _)
  go_wp2_with (first | ((with_reducible refine gL_build ?_); refine ⟨_, _, rfl, hz1, ?_⟩))
  refine (hadd _ _ hM).mono ?_
  rintro _ w2 (⟨h, -⟩ | ⟨-, rfl, ob, cap, h1, h2, hM2⟩)
  · omega
  clear hM hadd
  have hM := hM2
  clear hM2
  rw [hev ()] at hM
  have hm2 := hM
  go_wp2_with (first
    | ((with_reducible refine gL_buildBytes (dst := some 12) hM ?_); refine ⟨_, _, (us_of rfl), (el_of rfl), (by decide), (by decide), rfl, (by (repeat (first | exact EvB.nil | apply EvB.cons rfl (by first | exact (rfl : B8 _ = B8 _) | exact lit8 _ (by decide)))); done), ?_⟩; intro g12 _ hM2; clear hM; have hM := hM2; clear hM2)
    | ((with_reducible refine gL_buildBytes (dst := some 13) hM ?_); refine ⟨_, _, (us_of rfl), (el_of rfl), (by decide), (by decide), rfl, (by (repeat (first | exact EvB.nil | apply EvB.cons rfl (by first | exact (rfl : B8 _ = B8 _) | exact lit8 _ (by decide)))); done), ?_⟩; intro g13 _ hM2; clear hM; have hM := hM2; clear hM2))
  have hva : Bytes _ (.slice (some ⟨g12, 0, none⟩) 1 1) [1] := hM.whole (ob := some g12) (n := 1) (l := [1]) (N := 1) (.tail _ (.head _)) rfl (by decide)
  have hvb : Bytes _ (.slice (some ⟨g13, 0, none⟩) 1 1) [2] := hM.whole (ob := some g13) (n := 1) (l := [2]) (N := 1) (.head _) rfl (by decide)
  refine (log_Quote _ gl ob 1 cap E0 (hM.rowN (.tail _ (.tail _ (.head _))) rfl) (evs_elems hM (.tail _ (.tail _ (.tail _ (.head _)))) hgood) hE1 (by decide) _ [1] hva (by decide) _ [2] hvb (by decide) T1 hT1).mono ?_
  rintro _ w3 ⟨rfl, hB⟩
  replace hM := hM.adds hB
  clear hB hva hvb
  go_wp2_with (first
    | ((first | ((with_reducible refine gL_alloc (dst := some 3) hM ?_); refine ⟨_, _, (zr_of rfl), ?_⟩) | ((with_reducible refine gL_box (dst := some 3) hM ?_); refine ⟨_, _, _, rfl, rfl, (by first | assumption | exact Len.map (by assumption) _ | rfl | exact Len.map (by rfl) _ | exact Len.of (by simp; done)), ?_⟩)); intro g3 _ hM2; clear hM; have hM := hM2; clear hM2)
    | ((with_reducible refine gL_store hM ?_); refine ⟨_, _, _, rfl, rfl, hM.stores_all (by (repeat (first | exact .here _ _ _ | apply Has.there)); done) (ag_of rfl) (hTl.map _) (by rfl) B8_one, ?_⟩; intro _ hM2; clear hM; have hM := hM2; clear hM2)
    | ((with_reducible refine gL_build ?_); refine ⟨_, _, rfl, hz1, ?_⟩)
    | ((with_reducible refine gL_buildSlice1 (dst := some 16) hM ?_); refine ⟨_, Z, _, _, _, (us_of rfl), (el_of rfl), (by decide), rfl, rfl, hcl, ?_⟩; intro g16 _ hM2; clear hM; have hM := hM2; clear hM2))
  clear hm2
  rw [hev2 ()] at hM
  obtain ⟨gb, hgb⟩ := hM.some_of (.tail _ (.tail _ (.tail _ (.tail _ (.tail _ (.head _)))))) (n := 33) (by rw [← hev2 ()]; exact hcl) (by decide)
  subst hgb
  have hEl : (evs E0).length = 1 * 33 := by rw [← hev2 ()]; exact hcl.eq
  have hEo : ∀ v ∈ evs E0, v.oneCell' = true := fun v hv => by
    rw [evs, List.mem_flatMap] at hv
    obtain ⟨e, _, h⟩ := hv
    exact evC_one e v h
  have hc0 : Chain.check [1] [2] E0 T1 = 0 := by
    rw [Chain.check, hE1.eq, hT1]
    simp
  have hc1 : Chain.check [1] [3] E0 T1 = 19 := by
    rw [Chain.check, hE1.eq, hne]
    simp
  clear hT1 hne
  refine (log_Events _ gl (some gb) 1 cap (evs E0) (hM.rowN (.tail _ (.tail _ (.tail _ (.tail _ (.head _))))) rfl) hEl hEo (by decide) (hM.src (.tail _ (.tail _ (.tail _ (.tail _ (.tail _ (.head _)))))))).mono ?_
  rintro _ w4 ⟨ob', N', rfl, -, hM3⟩
  replace hM := hM.adds hM3.done
  clear hM3
  go_wp2_with fail
  refine (log_Register _ gl (some gb) 1 cap E0 (hM.rowN (.tail _ (.tail _ (.tail _ (.tail _ (.head _))))) rfl) (evs_elems hM (.tail _ (.tail _ (.tail _ (.tail _ (.tail _ (.head _)))))) hgood) hE1 (by decide) R1 hR1).mono ?_
  rintro _ w5 ⟨rfl, hB⟩
  replace hM := hM.adds hB
  clear hB hR1
  go_wp2_with (first
    | ((with_reducible refine gG_build (dst := some 28) ?_ ?_); (exact wanted_of rfl rfl rfl rfl rfl); refine ⟨_, _, rfl, hz2, ?_⟩)
    | ((with_reducible refine gG_build (dst := some 29) ?_ ?_); (exact wanted_of rfl rfl rfl rfl rfl); refine ⟨_, _, rfl, hz1, ?_⟩)
    | (go_at_call 45; (with_reducible refine (hme _).mono ?_); rintro _ _ ⟨rfl, B1⟩; replace hM := hM.adds B1; clear B1)
    | (go_at_call 43; (with_reducible refine (hext _).mono ?_); rintro _ _ ⟨rfl, B1⟩; replace hM := hM.adds B1; clear B1)
    | ((with_reducible refine gG_eql ?_ ?_); (exact wanted_of rfl rfl rfl rfl rfl); refine ⟨_, _, _, rfl, rfl, hash_self _ hRl, ?_⟩)
    | ((with_reducible refine gG_buildBytes (dst := some 35) hM ?_ ?_); (exact wanted_of rfl rfl rfl rfl rfl); refine ⟨_, _, (us_of rfl), (el_of rfl), (by decide), (by decide), rfl, (by (repeat (first | exact EvB.nil | apply EvB.cons rfl (by first | exact (rfl : B8 _ = B8 _) | exact lit8 _ (by decide)))); done), ?_⟩; intro g35 _ hM2; clear hM; have hM := hM2; clear hM2)
    | ((with_reducible refine gG_buildBytes (dst := some 36) hM ?_ ?_); (exact wanted_of rfl rfl rfl rfl rfl); refine ⟨_, _, (us_of rfl), (el_of rfl), (by decide), (by decide), rfl, (by (repeat (first | exact EvB.nil | apply EvB.cons rfl (by first | exact (rfl : B8 _ = B8 _) | exact lit8 _ (by decide)))); done), ?_⟩; intro g36 _ hM2; clear hM; have hM := hM2; clear hM2)
    | ((with_reducible refine gG_load (dst := some 38) ?_ ?_); (exact wanted_of rfl rfl rfl rfl rfl); refine ⟨_, _, rfl, hM.loads_all (.tail _ (.tail _ (.tail _ (.head _)))) (ag_of rfl) (hTl.map _), ?_⟩))
  have hva : Bytes _ (.slice (some ⟨g35, 0, none⟩) 1 1) [1] := hM.whole (ob := some g35) (n := 1) (l := [1]) (N := 1) (.tail _ (.head _)) rfl (by decide)
  have hvb : Bytes _ (.slice (some ⟨g36, 0, none⟩) 1 1) [2] := hM.whole (ob := some g36) (n := 1) (l := [2]) (N := 1) (.head _) rfl (by decide)
  have hEl16 := evs_elems (ob := some g16) hM (.tail _ (.tail _ (.head _))) hgood
  have hck := chain_Check _ _ [1] hva (by decide) _ [2] hvb (by decide) _ 1 E0 hEl16 (by rw [hE1.eq]; decide) T1 hTl 0 hc0
  rw [hE1.eq] at hck
  refine hck.mono ?_
  rintro _ w6 ⟨rfl, hB⟩
  replace hM := hM.adds hB
  clear hB hva hvb hEl16 hck
  go_wp2_with (first
    | ((with_reducible refine gG_buildBytes (dst := some 43) hM ?_ ?_); (exact wanted_of rfl rfl rfl rfl rfl); refine ⟨_, _, (us_of rfl), (el_of rfl), (by decide), (by decide), rfl, (by (repeat (first | exact EvB.nil | apply EvB.cons rfl (by first | exact (rfl : B8 _ = B8 _) | exact lit8 _ (by decide)))); done), ?_⟩; intro g43 _ hM2; clear hM; have hM := hM2; clear hM2)
    | ((with_reducible refine gG_buildBytes (dst := some 44) hM ?_ ?_); (exact wanted_of rfl rfl rfl rfl rfl); refine ⟨_, _, (us_of rfl), (el_of rfl), (by decide), (by decide), rfl, (by (repeat (first | exact EvB.nil | apply EvB.cons rfl (by first | exact (rfl : B8 _ = B8 _) | exact lit8 _ (by decide)))); done), ?_⟩; intro g44 _ hM2; clear hM; have hM := hM2; clear hM2)
    | ((with_reducible refine gG_load (dst := some 46) ?_ ?_); (exact wanted_of rfl rfl rfl rfl rfl); refine ⟨_, _, rfl, hM.loads_all (.tail _ (.tail _ (.tail _ (.tail _ (.tail _ (.head _)))))) (ag_of rfl) (hTl.map _), ?_⟩))
  have hva : Bytes _ (.slice (some ⟨g43, 0, none⟩) 1 1) [1] := hM.whole (ob := some g43) (n := 1) (l := [1]) (N := 1) (.tail _ (.head _)) rfl (by decide)
  have hvb : Bytes _ (.slice (some ⟨g44, 0, none⟩) 1 1) [3] := hM.whole (ob := some g44) (n := 1) (l := [3]) (N := 1) (.head _) rfl (by decide)
  have hEl16 := evs_elems (ob := some g16) hM (.tail _ (.tail _ (.tail _ (.tail _ (.head _))))) hgood
  have hck := chain_Check _ _ [1] hva (by decide) _ [3] hvb (by decide) _ 1 E0 hEl16 (by rw [hE1.eq]; decide) T1 hTl 19 hc1
  rw [hE1.eq] at hck
  refine hck.mono ?_
  rintro _ w7 ⟨rfl, hB⟩
  replace hM := hM.adds hB
  clear hB hva hvb hEl16 hck
  go_wp2_with fail
  go_ret
  exact ⟨rfl, hM.done⟩
end Go.Proofs.Ytejmbkljnhnklaa
