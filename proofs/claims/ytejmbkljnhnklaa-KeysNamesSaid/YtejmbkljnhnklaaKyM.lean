/-
  A ring's map: what it holds, key by key; the secrets of a list, put into it.
-/
import Derived.Test.YtejmbkljnhnklaaMacF
import Derived.Test.YtejmbkljnhnklaaMacR2
import Derived.Test.YtejmbkljnhnklaaScX
import Derived.Test.YtejmbkljnhnklaaIx
import Derived.Maps.Own
import Derived.Maps.Views
namespace Go.Proofs.Ytejmbkljnhnklaa
open Go.RowKit Go.PK Go.Maps

/-- how a map's values are told: each by itself -/
abbrev kR : Value → Option (DataW Value × List MemPlace) := fun v => some (.held v, [])
/-- a secret: its number, its slice, its bytes -/
abbrev Sec := Int × Value × List UInt8
/-- the map of some secrets -/
def kD (S : List Sec) : DataW Value := S.foldl (fun D x => D.put (.int .i64 x.1) (.held x.2.1)) (.map [])
theorem kD_snoc (S : List Sec) (x : Sec) : kD (S ++ [x]) = (kD S).put (.int .i64 x.1) (.held x.2.1) := by simp [kD, List.foldl_append]
/-- the secret of a number -/
def kLook (S : List Sec) (k : Int) : Option Sec := S.find? fun x => x.1 == k
theorem kD_map (S : List Sec) : IsMap (kD S) := by
  have : ∀ (S : List Sec) (D : DataW Value), IsMap D → IsMap (S.foldl (fun D x => D.put (.int .i64 x.1) (.held x.2.1)) D) := by
    intro S
    induction S with
    | nil => intro D h; exact h
    | cons x S ih => intro D h; exact ih _ (h.put _ _)
  exact this S _ isMap_empty
theorem kLook_snoc (S : List Sec) (x : Sec) (k : Int) : kLook (S ++ [x]) k = (kLook S k).or (if x.1 = k then some x else none) := by
  unfold kLook
  rw [List.find?_append]
  congr 1
  by_cases h : x.1 = k
  · simp [h]
  · simp [h]
theorem key_lit (k : Int) : WideAt.IsKeyLit (.int .i64 k) := by simp [WideAt.IsKeyLit]
/-- where no number is there twice: what the map tells of a number -/
theorem kD_at {S : List Sec} (hS : (S.map (·.1)).Nodup) (k : Int) (z : DataW Value) : (kD S).atKey (.int .i64 k) z = match kLook S k with
    | some x => .held x.2.1
    | none => z := by
  obtain ⟨m, hm⟩ : ∃ m, S.length = m := ⟨_, rfl⟩
  induction m generalizing S with
  | zero =>
    obtain rfl : S = [] := List.eq_nil_of_length_eq_zero hm
    rfl
  | succ m ih =>
    rcases List.eq_nil_or_concat S with rfl | ⟨S0, x, rfl⟩
    · simp at hm
    rw [List.concat_eq_append] at hS hm ⊢
    rw [List.map_append, List.nodup_append] at hS
    have hl : S0.length = m := by simpa using hm
    rw [kD_snoc, kLook_snoc]
    by_cases h : x.1 = k
    · subst h
      have hn : kLook S0 x.1 = none := by
        unfold kLook
        rw [List.find?_eq_none]
        intro y hy he
        have he' : y.1 = x.1 := by simpa using he
        exact hS.2.2 y.1 (List.mem_map.2 ⟨y, hy, rfl⟩) x.1 (by simp) he'
      rw [atKey_put_same (kD_map S0) (key_lit _), hn, if_pos rfl]
      rfl
    · rw [atKey_put_other (fun e => h (by injection e with _ e2; exact e2.symm)), ih hS.1 hl, if_neg h]
      cases kLook S0 k <;> rfl
theorem zero_bytes (w : World) : (zeroValue 22).run Try.prog w = .ok (.slice none 0 0) w := by kernel_rfl
set_option maxRecDepth 100000 in
/-- a number's secret, looked up -/
theorem look_run {w : World} {gm n : Nat} {S : List Sec} (h : w.ownsMap Try.prog 3 kR gm n (kD S)) (hS : (S.map (·.1)).Nodup) {k : Int} (hk : -9223372036854775808 ≤ k ∧ k ≤ 9223372036854775807) :
    (Instr.lookup 132 (.map (some gm)) (.int .i64 k) true).run Try.prog w = .ok (match kLook S k with
      | some x => .tuple #[x.2.1, .bool true]
      | none => .tuple #[.slice none 0 0, .bool false]) w := by
  have hkey : keyOf Try.prog 3 (.int .i64 k) = some (.int .i64 k) := keyOf_int_mk Try.underlying3 (by simp [Lit.wf, IntKind.min, IntKind.max, IntKind.signed, IntKind.bits]; omega)
  obtain ⟨es, clock, hb, F, _, hD⟩ := h
  have hat := kD_at hS k
  rcases Maps.fit_look true (int_keyed Try.underlying3) Try.underlying132 (zero_bytes w) hb F hkey with ⟨hrun, -, h1⟩ | ⟨e0, y, -, -, hrun, hy, h1, -⟩
  · rw [← hD] at h1
    have := (h1 (.lit (.bool true))).symm.trans (hat _)
    cases hl : kLook S k with
    | none => exact hrun
    | some x => rw [hl] at this; cases this
  · rw [← hD] at h1
    obtain rfl : (.held e0.val, []) = y := Option.some.inj hy
    cases hl : kLook S k with
    | none =>
      have h2 := (h1 (.lit (.bool true))).symm.trans (hat _)
      rw [hl] at h2
      cases h2
    | some x =>
      have h2 := (h1 (.lit (.bool true))).symm.trans (hat _)
      rw [hl] at h2
      injection h2 with h3
      refine hrun.trans ?_
      rw [if_pos rfl, h3]
end Go.Proofs.Ytejmbkljnhnklaa
