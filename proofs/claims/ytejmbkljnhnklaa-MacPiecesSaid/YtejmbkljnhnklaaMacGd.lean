/-
  What holds of the objects of MacPieces' script, step by step: Macs, their Digests, the rows of keys and of bytes.
-/
import Derived.Test.YtejmbkljnhnklaaScX
import Derived.Test.YtejmbkljnhnklaaMacF
import Derived.Test.YtejmbkljnhnklaaMacR2
namespace Go.Proofs.Ytejmbkljnhnklaa
open Go.RowKit Go.PK

/-- a Mac: its block, the key's slice, the key; its Digest with the row of bytes that is kept beside it -/
structure Md where
  gm : Nat
  kv : Value
  key : List UInt8
  d : Sd
def Md.p (m : Md) : Value := .pointer (some ⟨m.gm, 0, none⟩)
def Md.v (m : Md) : Value := m.d.r.v
def Md.dig (m : Md) : Blk := ⟨some m.d.g, 118, m.d.C, 137⟩
def Md.mac (m : Md) : Blk := ⟨some m.gm, 49, macC m.d.g (Mac.over (Mac.block m.key) 0x5C), 65⟩
abbrev mcR (oP oK oA : Option Nat) (cP cK cA : Nat) (PL KL AL : List Value) : List Blk := [⟨oP, 45, PL, cP⟩, ⟨oK, 22, KL, cK⟩, ⟨oA, 22, AL, cA⟩]
abbrev mcO (ms : List Md) (ps : List PR) : List Blk := ms.map Md.dig ++ (ps.map (PR.blk 5) ++ ms.map Md.mac)
structure MGood (w0 : World) (l : List Step) (j : Nat) (ms : List Md) (ps : List PR) : Prop where
  pos : 0 < j → 0 < ms.length
  most : ms.length ≤ j
  nil : PR.nil ∈ ps
  dig : ∀ m ∈ ms, DigAt m.d.C (Mac.over (Mac.block m.key) 0x36 ++ m.d.r.m)
  mem : ∀ m ∈ ms, m.d.r ∈ ps
  short : ∀ m ∈ ms, m.d.r.m.length ≤ pre l j
  cap : ∀ m ∈ ms, m.d.r.cap ≤ maxLen
  keyb : ∀ m ∈ ms, ∀ w, Adds w0 w → Bytes w m.kv m.key
  keyl : ∀ m ∈ ms, m.key.length ≤ 140737488351232
  keyo : ∀ m ∈ ms, m.kv.oneCell' = true
section
variable {w0 : World} {l : List Step} {j : Nat} {ms : List Md} {ps : List PR}
theorem MGood.start : MGood w0 l 0 [] [PR.nil] :=
  ⟨by omega, Nat.le_refl _, by simp, by simp, by simp, by simp, by simp, by simp, by simp, by simp⟩
theorem MGood.keep (h : MGood w0 l j ms ps) (hj : pre l j ≤ pre l (j + 1)) (h0 : 0 < j) : MGood w0 l (j + 1) ms ps :=
  ⟨fun _ => h.pos h0, by have := h.most; omega, h.nil, h.dig, h.mem, fun m hm => by have := h.short m hm; omega, h.cap, h.keyb, h.keyl, h.keyo⟩
theorem MGood.new (h : MGood w0 l j ms ps) (hj : pre l j ≤ pre l (j + 1)) {gm g : Nat} {kv : Value} {key : List UInt8} {C : List Value} (hC : DigAt C (Mac.over (Mac.block key) 0x36)) (hb : ∀ w, Adds w0 w → Bytes w kv key) (hl : key.length ≤ 140737488351232) (ho : kv.oneCell' = true) :
    MGood w0 l (j + 1) (ms ++ [⟨gm, kv, key, ⟨g, C, PR.nil⟩⟩]) ps := by
  refine ⟨fun _ => by simp, by rw [List.length_append]; have := h.most; simp; omega, h.nil, ?_, ?_, ?_, ?_, ?_, ?_, ?_⟩ <;> intro m hm <;> rw [List.mem_append, List.mem_singleton] at hm
  · rcases hm with hm | rfl
    · exact h.dig m hm
    · show DigAt C (Mac.over (Mac.block key) 0x36 ++ [])
      rw [List.append_nil]
      exact hC
  · rcases hm with hm | rfl
    · exact h.mem m hm
    · exact h.nil
  · rcases hm with hm | rfl
    · exact Nat.le_trans (h.short m hm) hj
    · exact Nat.zero_le _
  · rcases hm with hm | rfl
    · exact h.cap m hm
    · exact Nat.zero_le _
  · rcases hm with hm | rfl
    · exact h.keyb m hm
    · exact hb
  · rcases hm with hm | rfl
    · exact h.keyl m hm
    · exact hl
  · rcases hm with hm | rfl
    · exact h.keyo m hm
    · exact ho
theorem MGood.wrote (h : MGood w0 l j ms ps) {B : List UInt8} (hj : pre l (j + 1) = pre l j + (B.length + 1)) {k : Nat} {m : Md} (hk : ms[k]? = some m) {C : List Value} {r : PR} (hr : r.m = m.d.r.m ++ B)
    (hC : DigAt C (Mac.over (Mac.block m.key) 0x36 ++ (m.d.r.m ++ B))) (hc : r.cap ≤ maxLen) :
    MGood w0 l (j + 1) (ms.set k ⟨m.gm, m.kv, m.key, ⟨m.d.g, C, r⟩⟩) (ps ++ [r]) := by
  have hm0 := List.mem_of_getElem? hk
  have hin : ∀ x ∈ ms.set k ⟨m.gm, m.kv, m.key, ⟨m.d.g, C, r⟩⟩, x ∈ ms ∨ x = ⟨m.gm, m.kv, m.key, ⟨m.d.g, C, r⟩⟩ := fun x hx => List.mem_or_eq_of_mem_set hx
  have hp : 0 < ms.length := List.length_pos_of_mem hm0
  refine ⟨fun _ => by rw [List.length_set]; exact hp, by rw [List.length_set]; have := h.most; omega, List.mem_append_left _ h.nil, ?_, ?_, ?_, ?_, ?_, ?_, ?_⟩ <;> intro x hx <;> rcases hin x hx with hx | rfl
  · exact h.dig x hx
  · rw [← hr] at hC; exact hC
  · exact List.mem_append_left _ (h.mem x hx)
  · exact List.mem_append_right _ (by simp)
  · have := h.short x hx; omega
  · show r.m.length ≤ _
    rw [hr, List.length_append]
    have := h.short m hm0
    omega
  · exact h.cap x hx
  · exact hc
  · exact h.keyb x hx
  · exact h.keyb m hm0
  · exact h.keyl x hx
  · exact h.keyl m hm0
  · exact h.keyo x hx
  · exact h.keyo m hm0
variable {G : List Nat} {w : World} {R : List Blk}
/-- a new Mac -/
theorem Mem.mc_new {m : Md} (hM : Mem G w0 w (m.mac :: m.dig :: (R ++ mcO ms ps))) : Mem G w0 w (R ++ mcO (ms ++ [m]) ps) := by
  refine hM.perm ?_
  unfold mcO
  rw [List.map_append, List.map_append]
  have h1 : (m.mac :: m.dig :: (R ++ (ms.map Md.dig ++ (ps.map (PR.blk 5) ++ ms.map Md.mac)))).Perm (R ++ (m.mac :: m.dig :: (ms.map Md.dig ++ (ps.map (PR.blk 5) ++ ms.map Md.mac)))) := by
    refine (List.Perm.cons _ List.perm_middle.symm).trans ?_
    exact List.perm_middle.symm
  refine h1.trans (List.Perm.append_left R ?_)
  have h2 : (m.dig :: (ms.map Md.dig ++ (ps.map (PR.blk 5) ++ (m.mac :: ms.map Md.mac)))).Perm ((ms.map Md.dig ++ [m].map Md.dig) ++ (ps.map (PR.blk 5) ++ (ms.map Md.mac ++ [m].map Md.mac))) := by
    have e : (ms.map Md.dig ++ [m].map Md.dig) ++ (ps.map (PR.blk 5) ++ (ms.map Md.mac ++ [m].map Md.mac)) = ms.map Md.dig ++ (m.dig :: (ps.map (PR.blk 5) ++ (ms.map Md.mac ++ [m.mac]))) := by simp
    rw [e]
    refine List.perm_middle.symm.trans (List.Perm.append_left _ (List.Perm.cons _ (List.Perm.append_left _ ?_)))
    exact (List.perm_append_singleton _ _).symm
  refine (List.Perm.trans ?_ h2)
  refine (List.Perm.swap _ _ _).trans (List.Perm.cons _ ?_)
  have h3 : (m.mac :: ((ms.map Md.dig ++ ps.map (PR.blk 5)) ++ ms.map Md.mac)).Perm ((ms.map Md.dig ++ ps.map (PR.blk 5)) ++ (m.mac :: ms.map Md.mac)) := List.perm_middle.symm
  rw [List.append_assoc, List.append_assoc] at h3
  exact h3
/-- a Mac was written to, and the row beside it is a new one -/
theorem Mem.mc_wrote {k : Nat} {m : Md} {r : PR} {C' : List Value} (hk : ms[k]? = some m)
    (hM : Mem G w0 w (PR.blk 5 r :: (R ++ ((ms.set k ⟨m.gm, m.kv, m.key, ⟨m.d.g, C', m.d.r⟩⟩).map Md.dig ++ (ps.map (PR.blk 5) ++ ms.map Md.mac))))) :
    Mem G w0 w (R ++ mcO (ms.set k ⟨m.gm, m.kv, m.key, ⟨m.d.g, C', r⟩⟩) (ps ++ [r])) := by
  refine hM.perm ?_
  unfold mcO
  have h1 : (ms.set k ⟨m.gm, m.kv, m.key, ⟨m.d.g, C', r⟩⟩).map Md.dig = (ms.set k ⟨m.gm, m.kv, m.key, ⟨m.d.g, C', m.d.r⟩⟩).map Md.dig := by rw [set_map, set_map]; rfl
  have h2 : (ms.set k ⟨m.gm, m.kv, m.key, ⟨m.d.g, C', r⟩⟩).map Md.mac = ms.map Md.mac := set_same _ hk rfl
  rw [h1, h2, List.map_append]
  refine List.perm_middle.symm.trans (List.Perm.append_left R ?_)
  refine List.perm_middle.symm.trans (List.Perm.append_left _ ?_)
  have e : (ps.map (PR.blk 5) ++ [r].map (PR.blk 5)) ++ ms.map Md.mac = ps.map (PR.blk 5) ++ (PR.blk 5 r :: ms.map Md.mac) := by simp
  rw [e]
  exact List.perm_middle.symm
/-- the j-th step of the script, the key's own step ahead of it -/
theorem mstep_at {w0 : World} {v0 : Value} {key : List UInt8} {ao : Option Addr} {n cap : Nat} {l : List Step} (hK : (rSlice rOp).K w0 [.slice ao n cap] l) (hv : Bytes w0 v0 key) (hl : key.length ≤ 140737488351232) (ho : (rSlice rOp).ok l) {j : Nat} (hj : j < l.length + 1) :
    ∃ (kd on : Int) (B : List UInt8) (vB : Value), pre ((1, 0, key) :: l) (j + 1) = pre ((1, 0, key) :: l) j + (B.length + 1) ∧ B.length ≤ 140737488351232 ∧ (-9223372036854775808 ≤ on ∧ on ≤ 9223372036854775807) ∧ (∀ w, Adds w0 w → Bytes w vB B) ∧
      ((j = 0 ∧ kd = 1 ∧ on = 0 ∧ vB = v0) ∨ ∃ j' b off, j = j' + 1 ∧ ao = some ⟨b, off, none⟩ ∧ ∀ w, Adds w0 w → Loads Try.prog w 43 ⟨b, off + j' * 3, none⟩ (.agg [.int .i64 kd, .int .i64 on, vB].toArray) ∧ w.cell? ⟨b, off + (j' * 3 + 2), none⟩ = some vB) := by
  rcases j with _ | j
  · exact ⟨1, 0, key, v0, pre_succ (l := (1, 0, key) :: l) (k := 0) (by simp), hl, by decide, fun w hw => hv.adds hw, .inl ⟨rfl, rfl, rfl, rfl⟩⟩
  · have hjl : j < l.length := by omega
    obtain ⟨b, off, vB, rfl, hs⟩ := step_later hK hjl
    have hok := ho.2 _ (List.getElem_mem hjl)
    refine ⟨l[j].1, l[j].2.1, l[j].2.2, vB, pre_succ (l := (1, 0, key) :: l) (k := j + 1) (by simp; omega), hok.2.2.1, hok.2.1, fun w hw => (hs w hw).2.2.2, .inr ⟨j, b, off, rfl, rfl, fun w hw => ?_⟩⟩
    obtain ⟨h0, h1, h2, -⟩ := hs w hw
    refine ⟨loads_agg (n := 3) (ag_of rfl) rfl fun i v hi => ?_, h2⟩
    rw [Addr.add_lit]
    rcases i with _ | _ | _ | i
    · simp at hi; subst hi; exact h0
    · simp at hi; subst hi; exact h1
    · simp at hi; subst hi; exact h2
    · simp at hi
theorem mcO_dig {m : Md} (h : m ∈ ms) : m.dig ∈ mcO ms ps := List.mem_append_left _ (List.mem_map.2 ⟨m, h, rfl⟩)
theorem mcO_mac {m : Md} (h : m ∈ ms) : m.mac ∈ mcO ms ps := List.mem_append_right _ (List.mem_append_right _ (List.mem_map.2 ⟨m, h, rfl⟩))
theorem mcO_row {r : PR} (h : r ∈ ps) : PR.blk 5 r ∈ mcO ms ps := List.mem_append_right _ (List.mem_append_left _ (List.mem_map.2 ⟨r, h, rfl⟩))
end
end Go.Proofs.Ytejmbkljnhnklaa
