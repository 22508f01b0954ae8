/-
  SHA-256 as plain functions on words and bytes; nothing of the program.
-/
import Derived.Test.YtejmbkljnhnklaaOwnW
namespace Go.PK.Sha

def ks : List UInt32 := [
  0x428a2f98, 0x71374491, 0xb5c0fbcf, 0xe9b5dba5, 0x3956c25b, 0x59f111f1, 0x923f82a4, 0xab1c5ed5,
  0xd807aa98, 0x12835b01, 0x243185be, 0x550c7dc3, 0x72be5d74, 0x80deb1fe, 0x9bdc06a7, 0xc19bf174,
  0xe49b69c1, 0xefbe4786, 0x0fc19dc6, 0x240ca1cc, 0x2de92c6f, 0x4a7484aa, 0x5cb0a9dc, 0x76f988da,
  0x983e5152, 0xa831c66d, 0xb00327c8, 0xbf597fc7, 0xc6e00bf3, 0xd5a79147, 0x06ca6351, 0x14292967,
  0x27b70a85, 0x2e1b2138, 0x4d2c6dfc, 0x53380d13, 0x650a7354, 0x766a0abb, 0x81c2c92e, 0x92722c85,
  0xa2bfe8a1, 0xa81a664b, 0xc24b8b70, 0xc76c51a3, 0xd192e819, 0xd6990624, 0xf40e3585, 0x106aa070,
  0x19a4c116, 0x1e376c08, 0x2748774c, 0x34b0bcb5, 0x391c0cb3, 0x4ed8aa4a, 0x5b9cca4f, 0x682e6ff3,
  0x748f82ee, 0x78a5636f, 0x84c87814, 0x8cc70208, 0x90befffa, 0xa4506ceb, 0xbef9a3f7, 0xc67178f2]
def begins : List UInt32 := [0x6a09e667, 0xbb67ae85, 0x3c6ef372, 0xa54ff53a, 0x510e527f, 0x9b05688c, 0x1f83d9ab, 0x5be0cd19]

def turned (x : UInt32) (n : Nat) : UInt32 := shr32 x n ||| shl32 x (32 - n)
/-- a word, out of four bytes -/
def be (c : List UInt8) (t : Nat) : UInt32 := (gb c (4 * t)).toUInt32 <<< 24 ||| (gb c (4 * t + 1)).toUInt32 <<< 16 ||| (gb c (4 * t + 2)).toUInt32 <<< 8 ||| (gb c (4 * t + 3)).toUInt32
def sig0 (x : UInt32) : UInt32 := turned x 7 ^^^ turned x 18 ^^^ x >>> 3
def sig1 (x : UInt32) : UInt32 := turned x 17 ^^^ turned x 19 ^^^ x >>> 10
def next (c : List UInt8) (l : List UInt32) (t : Nat) : UInt32 :=
  if t < 16 then be c t else gw l (t - 16) + sig0 (gw l (t - 15)) + gw l (t - 7) + sig1 (gw l (t - 2))
/-- the first words of a piece -/
def wl (c : List UInt8) : Nat → List UInt32
  | 0 => []
  | t + 1 => wl c t ++ [next c (wl c t) t]
def one (s : List UInt32) (k w : UInt32) : UInt32 := gw s 7 + (turned (gw s 4) 6 ^^^ turned (gw s 4) 11 ^^^ turned (gw s 4) 25) + ((gw s 4 &&& gw s 5) ^^^ (~~~(gw s 4) &&& gw s 6)) + k + w
def two (s : List UInt32) : UInt32 := (turned (gw s 0) 2 ^^^ turned (gw s 0) 13 ^^^ turned (gw s 0) 22) + (((gw s 0 &&& gw s 1) ^^^ (gw s 0 &&& gw s 2)) ^^^ (gw s 1 &&& gw s 2))
def round (s : List UInt32) (k w : UInt32) : List UInt32 := [one s k w + two s, gw s 0, gw s 1, gw s 2, gw s 3 + one s k w, gw s 4, gw s 5, gw s 6]
def rnd (s w : List UInt32) : Nat → List UInt32
  | 0 => s
  | t + 1 => round (rnd s w t) (gw ks t) (gw w t)
def plus (s v : List UInt32) : List UInt32 := List.zipWith (· + ·) s v
def piece (s : List UInt32) (c : List UInt8) : List UInt32 := plus s (rnd s (wl c 64) 64)
/-- behind so many pieces -/
def run (m : List UInt8) : Nat → List UInt32
  | 0 => begins
  | q + 1 => piece (run m q) ((m.drop (64 * q)).take 64)
def be64 (n : UInt64) : List UInt8 := (List.range 8).map fun i => (shr64 n (56 - 8 * i)).toUInt8
def zeros (n : Nat) : Nat := (64 + 55 - n % 64) % 64
def ending (n : Nat) : List UInt8 := 0x80 :: (List.replicate (zeros n) 0 ++ be64 (8 * UInt64.ofNat n))
def padded (m : List UInt8) : List UInt8 := m ++ ending m.length
def out (s : List UInt32) : List UInt8 := (List.range 32).map fun i => (shr32 (gw s (i / 4)) (24 - 8 * (i % 4))).toUInt8
def of (m : List UInt8) : List UInt8 := out (run (padded m) ((padded m).length / 64))

theorem ks_len : ks.length = 64 := rfl
theorem begins_len : begins.length = 8 := rfl
theorem wl_len (c : List UInt8) (t : Nat) : (wl c t).length = t := by
  induction t with
  | zero => rfl
  | succ t ih => rw [wl, List.length_append, ih]; rfl
theorem gw_left {l X : List UInt32} {i : Nat} (h : i < l.length) : gw (l ++ X) i = gw l i := by
  unfold gw
  rw [List.getD_eq_getElem?_getD, List.getD_eq_getElem?_getD, List.getElem?_append_left h]
theorem gb_left {l X : List UInt8} {i : Nat} (h : i < l.length) : gb (l ++ X) i = gb l i := by
  unfold gb
  rw [List.getD_eq_getElem?_getD, List.getD_eq_getElem?_getD, List.getElem?_append_left h]
/-- the array under way -/
def laying (c : List UInt8) (t : Nat) : List UInt32 := wl c t ++ List.replicate (64 - t) 0
theorem laying_len (c : List UInt8) (t : Nat) (h : t ≤ 64) : (laying c t).length = 64 := by
  rw [laying, List.length_append, wl_len, List.length_replicate]
  omega
theorem laying_all (c : List UInt8) : laying c 64 = wl c 64 := by simp [laying]
theorem laying_zero (c : List UInt8) : laying c 0 = List.replicate 64 0 := by simp [laying, wl]
theorem piece_eq (s : List UInt32) (c : List UInt8) : piece s c = plus s (rnd s (wl c 64) 64) := by rw [piece]
theorem laying_get (c : List UInt8) {t i : Nat} (h : i < t) : gw (laying c t) i = gw (wl c t) i := gw_left (by rw [wl_len]; exact h)
theorem laying_set (c : List UInt8) (t : Nat) (h : t < 64) : (laying c t).set t (next c (wl c t) t) = laying c (t + 1) := by
  rw [laying, laying, wl, show 64 - t = (64 - (t + 1)) + 1 from by omega, List.replicate_succ, List.set_append_right _ _ (by rw [wl_len]; exact Nat.le_refl _), wl_len, Nat.sub_self, List.append_assoc]
  rfl
theorem round_len (s : List UInt32) (k w : UInt32) : (round s k w).length = 8 := rfl
theorem rnd_len (s w : List UInt32) (t : Nat) (h : s.length = 8) : (rnd s w t).length = 8 := by
  cases t with
  | zero => exact h
  | succ t => rfl
theorem plus_len (s v : List UInt32) (h : s.length = 8) (k : v.length = 8) : (plus s v).length = 8 := by simp [plus, h, k]
theorem plus_step (s v : List UInt32) (h : s.length = 8) (k : v.length = 8) (t : Nat) (ht : t < 8) :
    ((plus s v).take t ++ s.drop t).set t (gw ((plus s v).take t ++ s.drop t) t + gw v t) = (plus s v).take (t + 1) ++ s.drop (t + 1) := by
  have hl := plus_len s v h k
  have h1 : ((plus s v).take t).length = t := by rw [List.length_take, hl]; omega
  have h2 : gw ((plus s v).take t ++ s.drop t) t = gw s t := by
    unfold gw
    rw [List.getD_eq_getElem?_getD, List.getD_eq_getElem?_getD, List.getElem?_append_right (by rw [h1]; exact Nat.le_refl _), h1, Nat.sub_self, List.getElem?_drop, Nat.add_zero]
  have h3 : s.drop t = gw s t :: s.drop (t + 1) := by
    rw [List.drop_eq_getElem_cons (by omega)]
    unfold gw
    rw [List.getD_eq_getElem?_getD, List.getElem?_eq_getElem (by omega)]
    rfl
  have h4 : (plus s v).take (t + 1) = (plus s v).take t ++ [gw s t + gw v t] := by
    rw [List.take_succ_eq_append_getElem (by rw [hl]; exact ht)]
    unfold plus gw
    rw [List.getElem_zipWith, List.getD_eq_getElem?_getD, List.getD_eq_getElem?_getD, List.getElem?_eq_getElem (by omega), List.getElem?_eq_getElem (by omega)]
    rfl
  rw [h2, h3, List.set_append_right _ _ (by rw [h1]; exact Nat.le_refl _), h1, Nat.sub_self, List.set_cons_zero, h4, List.append_assoc]
  rfl
theorem piece_len (s : List UInt32) (c : List UInt8) (h : s.length = 8) : (piece s c).length = 8 := plus_len _ _ h (rnd_len _ _ _ h)
theorem run_len (m : List UInt8) (q : Nat) : (run m q).length = 8 := by
  induction q with
  | zero => rfl
  | succ q ih => exact piece_len _ _ ih
theorem be64_len (n : UInt64) : (be64 n).length = 8 := by simp [be64]
theorem out_len (s : List UInt32) : (out s).length = 32 := by simp [out]
theorem of_len (m : List UInt8) : (of m).length = 32 := out_len _
theorem ending_len (n : Nat) : (ending n).length = zeros n + 9 := by simp [ending, be64_len]
theorem padded_len (m : List UInt8) : (padded m).length = 64 * ((padded m).length / 64) := by
  have : (padded m).length = m.length + (zeros m.length + 9) := by rw [padded, List.length_append, ending_len]
  rw [this]
  unfold zeros
  omega
theorem run_append (m l : List UInt8) (q : Nat) (h : 64 * q ≤ m.length) : run (m ++ l) q = run m q := by
  induction q with
  | zero => rfl
  | succ q ih =>
    rw [run, run, ih (by omega), List.drop_append_of_le_length (by omega), List.take_append_of_le_length (by rw [List.length_drop]; omega)]

/-- a hash under way: what is said by the three fields -/
structure At (s : List UInt32) (some : List UInt8) (m : List UInt8) : Prop where
  s : s = run m (m.length / 64)
  len : some.length = 64
  some : some.take (m.length % 64) = m.drop (64 * (m.length / 64))
theorem At.start : At begins (List.replicate 64 0) [] := ⟨rfl, rfl, rfl⟩
theorem At.slen {s : List UInt32} {b m : List UInt8} (h : At s b m) : s.length = 8 := by rw [h.s]; exact run_len _ _

/-- part of a piece was there, and no piece is whole yet -/
theorem At.few {s : List UInt32} {b m l : List UInt8} (h : At s b m) (hl : m.length % 64 + l.length < 64) : At s (b.take (m.length % 64) ++ l ++ b.drop (m.length % 64 + l.length)) (m ++ l) := by
  have e1 : (m ++ l).length / 64 = m.length / 64 := by rw [List.length_append]; omega
  have e2 : (m ++ l).length % 64 = m.length % 64 + l.length := by rw [List.length_append]; omega
  have ht : (b.take (m.length % 64)).length = m.length % 64 := by rw [List.length_take, h.len]; omega
  refine ⟨?_, ?_, ?_⟩
  · rw [h.s, e1, run_append _ _ _ (by omega)]
  · simp [h.len]; omega
  · rw [e1, e2, List.take_append_of_le_length (by rw [List.length_append, ht]; exact Nat.le_refl _), List.take_of_length_le (by rw [List.length_append, ht]; exact Nat.le_refl _), h.some, List.drop_append_of_le_length (by omega)]
/-- .. or just becomes whole -/
theorem At.whole {s : List UInt32} {b m l : List UInt8} (h : At s b m) (_hl : 64 ≤ m.length % 64 + l.length) :
    piece s (b.take (m.length % 64) ++ l.take (64 - m.length % 64)) = run (m ++ l) (m.length / 64 + 1) ∧ (m ++ l).drop (64 * (m.length / 64 + 1)) = l.drop (64 - m.length % 64) := by
  have hd : (m ++ l).drop (64 * (m.length / 64)) = m.drop (64 * (m.length / 64)) ++ l := List.drop_append_of_le_length (by omega)
  have hdl : (m.drop (64 * (m.length / 64))).length = m.length % 64 := by rw [List.length_drop]; omega
  refine ⟨?_, ?_⟩
  · rw [run, run_append _ _ _ (by omega), ← h.s, hd, h.some, List.take_append, hdl, List.take_of_length_le (l := m.drop _) (by omega)]
  · rw [show 64 * (m.length / 64 + 1) = 64 * (m.length / 64) + 64 from by omega, ← List.drop_drop, hd, List.drop_append, hdl, List.drop_of_length_le (l := m.drop _) (by omega), List.nil_append]
/-- at the end: what is left is laid down -/
theorem At.rest {s : List UInt32} {b M : List UInt8} (q : Nat) (hs : s = run M q) (hb : b.length = 64) (h1 : 64 * q ≤ M.length) (h2 : M.length < 64 * q + 64) : At s (M.drop (64 * q) ++ b.drop (M.length - 64 * q)) M := by
  have e1 : M.length / 64 = q := by omega
  have e2 : M.length % 64 = M.length - 64 * q := by omega
  refine ⟨by rw [hs, e1], by simp [hb]; omega, ?_⟩
  rw [e1, e2, List.take_append_of_le_length (by rw [List.length_drop]; omega), List.take_of_length_le (by rw [List.length_drop]; omega)]
/-- the hash, where the ending was written -/
theorem At.hash {s : List UInt32} {b m : List UInt8} (h : At s b (m ++ ending m.length)) : out s = of m := by
  rw [h.s]
  rfl
/-- a word under way: so many of its bytes -/
def bp (c : List UInt8) (t : Nat) : Nat → UInt32
  | 0 => 0
  | k + 1 => bp c t k <<< 8 ||| (gb c (4 * t + k)).toUInt32
theorem shl_or (a b n : UInt32) : (a ||| b) <<< n = a <<< n ||| b <<< n := by
  apply UInt32.toBitVec_inj.1
  simp [BitVec.shiftLeft_or_distrib]
theorem bp_be (c : List UInt8) (t : Nat) : bp c t 4 = be c t := by
  have e : ∀ x : UInt32, (x <<< 8) <<< 8 = x <<< 16 := fun x => by
    apply UInt32.toNat_inj.1
    simp only [UInt32.toNat_shiftLeft]
    show (x.toNat <<< 8 % 2 ^ 32) <<< 8 % 2 ^ 32 = x.toNat <<< 16 % 2 ^ 32
    simp only [Nat.shiftLeft_eq]
    omega
  have e2 : ∀ x : UInt32, (x <<< 16) <<< 8 = x <<< 24 := fun x => by
    apply UInt32.toNat_inj.1
    simp only [UInt32.toNat_shiftLeft]
    show (x.toNat <<< 16 % 2 ^ 32) <<< 8 % 2 ^ 32 = x.toNat <<< 24 % 2 ^ 32
    simp only [Nat.shiftLeft_eq]
    omega
  have e0 : (0 : UInt32) <<< 8 = 0 := by decide
  simp only [bp, e0, UInt32.zero_or, shl_or, e, e2]
  rfl
theorem laying_bp (c : List UInt8) (t : Nat) (h : t < 16) : (laying c t).set t (bp c t 4) = laying c (t + 1) := by
  rw [← laying_set c t (by omega), bp_be, next, if_pos h]
theorem laying_bp0 (c : List UInt8) (t : Nat) (h : t < 16) : (laying c t).set t (bp c t 0) = laying c t := by
  rw [laying, show 64 - t = (64 - (t + 1)) + 1 from by omega, List.replicate_succ, List.set_append_right _ _ (by rw [wl_len]; exact Nat.le_refl _), wl_len, Nat.sub_self]
  rfl
theorem gw_set {l : List UInt32} {i : Nat} (h : i < l.length) (x : UInt32) : gw (l.set i x) i = x := by
  unfold gw
  rw [List.getD_eq_getElem?_getD, List.getElem?_set_self h]
  rfl
theorem gb_set {l : List UInt8} {i : Nat} (h : i < l.length) (x : UInt8) : gb (l.set i x) i = x := by
  unfold gb
  rw [List.getD_eq_getElem?_getD, List.getElem?_set_self h]
  rfl
end Go.PK.Sha
