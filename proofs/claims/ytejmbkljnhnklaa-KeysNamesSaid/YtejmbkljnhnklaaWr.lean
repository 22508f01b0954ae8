/-
  A region that draws its order, whose last operations follow all others but for one writer ahead of them, which some plain moves need not come ahead of ('x.f = append(x.f, ..)').
-/
import Derived.Test.YtejmbkljnhnklaaRm
namespace Go.PK
open Go.RowKit
section
variable {P : Program} {Q : Exit → Act → World → Prop}

/-- from the m-th operation on each follows all that are ahead of it; but the m-th need not follow those of F -/
def tailOkF (m : Nat) (F : List Nat) (ops : List Oper) (D : List (List Nat)) : Bool := (List.range ops.length).all fun i => i < m || (List.range i).all fun j => (i == m && F.contains j) || (D.getD i []).contains j

/-- what holds when the operations in 'listed' have run -/
def WrInv (P : Program) (Q : Exit → Act → World → Prop) (l : List Oper) (m : Nat) (F : List Nat) (fr : (Nat → Value) → (Nat → Value) → Act) (c : Nat → Value) (C : World → Prop) (Φs : List (Value → World → Prop)) (Es : List (Value → Prop)) (S : Value → World → Prop) (D : List (List Nat)) (listed : Array Bool) (a : Act) (w' : World) : Prop :=
  listed.size = l.length ∧ (∀ i o, listed[i]? = some true → l[i]? = some o → (∀ k ∈ bound o, listed[k]? = some true) ∧ ∀ j, (D.getD i []).contains j = true → listed[j]? = some true) ∧
  ((C w' ∧ (∀ i, m ≤ i → listed[i]? ≠ some true) ∧ ∃ vals, a = fr c vals ∧ (∀ i, listed[i]? = some true → Φs.getD i (fun _ _ => True) (vals i) w')) ∨
   (listed[m]? = some true ∧ (∀ i, m < i → listed[i]? ≠ some true) ∧ (∀ i, i < m → F.contains i = false → listed[i]? = some true) ∧ ∃ vals, a = fr c vals ∧ S (vals m) w' ∧ ∀ i, i < m → listed[i]? = some true → Es.getD i (fun _ => True) (vals i)) ∨
   (∃ j, m + 1 < j ∧ (∀ i, i < j → listed[i]? = some true) ∧ (∀ i, j ≤ i → listed[i]? ≠ some true) ∧ wpList P l.toArray Q (l.drop j) a w'))

theorem wp_region_writer {id : Nat} {l : List Oper} (m : Nat) (hml : m < l.length) (F : List Nat) (fr : (Nat → Value) → (Nat → Value) → Act) (c vals0 : Nat → Value) {w : World} (hm : P.follows .mixedOrders = true)
    (D : List (List Nat)) (hD : aheadOk l D = true) (hT : tailOkF m F l D = true) (X : (Nat → Value) → Prop) (hX : X c)
    (Φs : List (Value → World → Prop)) (hΦ : StableAll Φs) (Es : List (Value → Prop)) (hE : ∀ i x w', i < m → Φs.getD i (fun _ _ => True) x w' → Es.getD i (fun _ => True) x) (S : Value → World → Prop)
    (hshow : ShowsA P l.toArray Q fr X (Adds w) Φs D [] 0 (l.take m))
    (hfree : ∀ i o, i < m → F.contains i = true → l[i]? = some o → ∀ vals w', ∀ K : Act → World → Prop, (∀ v, Es.getD i (fun _ => True) v → K (fr c (upd vals i v)) w') → Region.wanted o (yielded l.toArray (fr c vals).tmps) = true ∧ o.wp P (fr c vals) w' K Q)
    (hwr : ∀ o, l[m]? = some o → ∀ vals w', Adds w w' → (∀ j, j < m → F.contains j = false → Φs.getD j (fun _ _ => True) (vals j) w') → ∀ K : Act → World → Prop, (∀ v w'', S v w'' → K (fr c (upd vals m v)) w'') → Region.wanted o (yielded l.toArray (fr c vals).tmps) = true ∧ o.wp P (fr c vals) w' K Q)
    (hfin : ∀ vals w', S (vals m) w' → (∀ i, i < m → Es.getD i (fun _ => True) (vals i)) → wpList P l.toArray Q (l.drop (m + 1)) (fr c vals) w') :
    (Code.region id l.toArray true).wp P Q (fr c vals0) w := by
  refine wp_region_any hm ?_
  have hdrew : ({ w with drawn := w.drawn + 1 } : World) = w.drew := rfl
  rw [hdrew]
  have hacyc : ∀ i o, l[i]? = some o → (∀ k ∈ bound o, k < i) ∧ ∀ j, (D.getD i []).contains j = true → j ∈ bound o ∨ ∃ k ∈ bound o, (D.getD k []).contains j = true := by
    intro i o ho
    unfold aheadOk at hD
    rw [List.all_eq_true] at hD
    have := hD (o, i) (by rw [List.mem_iff_getElem?]; exact ⟨i, by simp [ho]⟩)
    simp only [Bool.and_eq_true, List.all_eq_true] at this
    obtain ⟨h1, h2⟩ := this
    refine ⟨fun k hk => by simpa using h1 k hk, fun j hj => ?_⟩
    have := h2 j (by simpa using hj)
    rw [Bool.or_eq_true] at this
    rcases this with h | h
    · exact .inl (by simpa using h)
    · rw [List.any_eq_true] at h
      obtain ⟨k, hk, hj'⟩ := h
      exact .inr ⟨k, hk, hj'⟩
  have htail : ∀ i, m ≤ i → i < l.length → ∀ j, j < i → (i = m ∧ F.contains j = true) ∨ (D.getD i []).contains j = true := by
    intro i h1 h2 j hj
    unfold tailOkF at hT
    rw [List.all_eq_true] at hT
    have := hT i (List.mem_range.2 h2)
    rw [Bool.or_eq_true] at this
    rcases this with h | h
    · have : i < m := by simpa using h
      omega
    · rw [List.all_eq_true] at h
      have := h j (List.mem_range.2 hj)
      rw [Bool.or_eq_true, Bool.and_eq_true] at this
      rcases this with ⟨h3, h4⟩ | h3
      · exact .inl ⟨by simpa using h3, h4⟩
      · exact .inr h3
  refine wpAny_inv (I := WrInv P Q l m F fr c (Adds w) Φs Es S D) ?_ ?_ _ _ _ _ ?_ ?_
  · rintro listed a w' ⟨hs, hcl, hor⟩ hr
    have hall : ∀ i, i < l.length → listed[i]? = some true := by
      intro i
      induction i using Nat.strongRecOn with
      | ind i ih =>
        intro hi
        have hil : i < listed.size := by omega
        cases hb : listed[i] with
        | true => simp [hil, hb]
        | false =>
          exfalso
          have ho : l[i]? = some l[i] := List.getElem?_eq_getElem hi
          have hmem : i ∈ Region.ready .any l.toArray listed := by
            unfold Region.ready
            rw [List.mem_filter]
            refine ⟨by simp [hi], ?_⟩
            rw [Bool.and_eq_true]
            refine ⟨by simp [Array.getD, hil, hb], ?_⟩
            have : l.toArray[i]? = some l[i] := by simp
            rw [this]
            simp only [Option.map_some, Option.getD_some]
            rw [Array.all_eq_true']
            intro e he
            cases hbd : Region.binds .any e with
            | false => rfl
            | true =>
              have hk : e.on ∈ bound l[i] := by
                unfold bound
                rw [List.mem_map]
                exact ⟨e, List.mem_filter.2 ⟨Array.mem_toList_iff.2 he, hbd⟩, rfl⟩
              have hlt := (hacyc i l[i] ho).1 e.on hk
              have hle := ih e.on hlt (by omega)
              have hlt' : e.on < listed.size := by omega
              simp only [Array.getD, hlt', dite_true, Bool.not_true, Bool.false_or]
              rw [Array.getElem?_eq_getElem hlt'] at hle
              exact Option.some.inj hle
          rw [hr] at hmem
          cases hmem
    rcases hor with ⟨hC, hno, vals, rfl, hv⟩ | ⟨hlm, hno, hbe, vals, rfl, hS, hv⟩ | ⟨j, hj, hyes, hno, hwp⟩
    · exact absurd (hall m hml) (hno m (Nat.le_refl _))
    · have hle : l.length ≤ m + 1 := by
        rcases Nat.lt_or_ge (m + 1) l.length with h | h
        · exact absurd (hall (m + 1) h) (hno (m + 1) (by omega))
        · exact h
      have := hfin vals w' hS (fun i hi => hv i hi (hall i (by omega)))
      rw [List.drop_of_length_le hle] at this
      exact this
    · have hjl : l.length ≤ j := by
        rcases Nat.lt_or_ge j l.length with h | h
        · exact absurd (hall j h) (hno j (Nat.le_refl _))
        · exact h
      rw [List.drop_of_length_le hjl] at hwp
      exact hwp
  · rintro listed a w' i ⟨hs, hcl, hor⟩ hi
    obtain ⟨hun, o, ho, hbd⟩ := Go.PK.mem_ready hi
    have ho' : l[i]? = some o := by simpa using ho
    have hil : i < l.length := (List.getElem?_eq_some_iff.1 ho').1
    have hbd' : ∀ k ∈ bound o, listed[k]? = some true := by
      intro k hk
      unfold bound at hk
      rw [List.mem_map] at hk
      obtain ⟨e, he, rfl⟩ := hk
      rw [List.mem_filter] at he
      have := hbd e he.1 he.2
      by_cases hlt : e.on < listed.size
      · simp [Array.getD, hlt] at this
        simp [hlt, this]
      · simp [Array.getD, hlt] at this
    have hDl : ∀ j, (D.getD i []).contains j = true → listed[j]? = some true := by
      intro j hj
      rcases (hacyc i o ho').2 j hj with h | ⟨k, hk, hj'⟩
      · exact hbd' j h
      · have hkl := hbd' k hk
        have hklt : k < l.length := by have := (hacyc i o ho').1 k hk; omega
        exact (hcl k l[k] hkl (List.getElem?_eq_getElem hklt)).2 j hj'
    have hi' : listed[i]? = some false := by
      have hlt : i < listed.size := by omega
      simp [Array.getD, hlt] at hun
      simp [hlt, hun]
    have hmono : ∀ j : Nat, listed[j]? = some true → (listed.setIfInBounds i true)[j]? = some true := by
      intro j hj
      rw [Array.getElem?_setIfInBounds]
      split
      · rename_i h
        subst h
        rw [if_pos (by omega)]
      · exact hj
    have hcl' : ∀ j o', (listed.setIfInBounds i true)[j]? = some true → l[j]? = some o' → (∀ k ∈ bound o', (listed.setIfInBounds i true)[k]? = some true) ∧ ∀ k, (D.getD j []).contains k = true → (listed.setIfInBounds i true)[k]? = some true := by
      intro j o' hj ho''
      by_cases hji : j = i
      · subst hji
        rw [ho'] at ho''
        cases ho''
        exact ⟨fun k hk => hmono k (hbd' k hk), fun j' hj' => hmono j' (hDl j' hj')⟩
      · rw [Array.getElem?_setIfInBounds_ne (Ne.symm hji)] at hj
        obtain ⟨g1, g2⟩ := hcl j o' hj ho''
        exact ⟨fun k hk => hmono k (g1 k hk), fun j' hj' => hmono j' (g2 j' hj')⟩
    have back : ∀ j, j ≠ i → (listed.setIfInBounds i true)[j]? = some true → listed[j]? = some true := fun j hj h => by
      rwa [Array.getElem?_setIfInBounds_ne (Ne.symm hj)] at h
    have here : (listed.setIfInBounds i true)[i]? = some true := by rw [Array.getElem?_setIfInBounds, if_pos rfl, if_pos (by omega)]
    have run : ∀ j, m + 1 ≤ j → i = j → (∀ k, k < j → listed[k]? = some true) → (∀ k, j ≤ k → listed[k]? ≠ some true) → wpList P l.toArray Q (l.drop j) a w' → wpOp P l.toArray Q i (WrInv P Q l m F fr c (Adds w) Φs Es S D (listed.setIfInBounds i true)) a w' := by
      intro j hj hij hyes hno hwp
      subst hij
      rw [List.drop_eq_getElem_cons hil] at hwp
      have hoi : l[i] = o := by rw [List.getElem?_eq_getElem hil] at ho'; exact Option.some.inj ho'
      rw [hoi] at hwp
      have hnext : ∀ a2 w2, wpList P l.toArray Q (l.drop (i + 1)) a2 w2 → WrInv P Q l m F fr c (Adds w) Φs Es S D (listed.setIfInBounds i true) a2 w2 := by
        intro a2 w2 h2
        refine ⟨by simpa using hs, hcl', .inr (.inr ⟨i + 1, by omega, fun k hk => ?_, fun k hk hk' => ?_, h2⟩)⟩
        · by_cases hki : k = i
          · subst hki
            exact here
          · exact hmono k (hyes k (by omega))
        · exact hno k (by omega) (back k (by omega) hk')
      unfold wpOp
      rw [ho]
      show if Region.wanted o (yielded l.toArray a.tmps) = true then _ else _
      unfold wpList at hwp
      split
      · rename_i hw
        rw [if_pos hw] at hwp
        exact hwp.imp (Oper.wp_mono hnext) fun h => h
      · rename_i hw
        rw [if_neg hw] at hwp
        exact hnext _ _ hwp
    have one : ∀ K : Act → World → Prop, Region.wanted o (yielded l.toArray a.tmps) = true ∧ o.wp P a w' K Q → wpOp P l.toArray Q i K a w' := by
      rintro K ⟨h1, h2⟩
      unfold wpOp
      rw [ho]
      show if Region.wanted o (yielded l.toArray a.tmps) = true then _ else _
      rw [if_pos h1]
      exact .inl h2
    rcases hor with ⟨hC, hno, vals, rfl, hv⟩ | ⟨hlm, hno, hbe, vals, rfl, hS, hv⟩ | ⟨j, hj, hyes, hno, hwp⟩
    · by_cases him : i < m
      · have hsh := ShowsA.get _ 0 hshow i o (by rw [List.getElem?_take, if_pos him]; exact ho')
        rw [Nat.zero_add] at hsh
        obtain ⟨hput, hsh⟩ := hsh
        have hrun := hsh c hX vals w' hC (fun j hj => hv j (hDl j hj)) (WrInv P Q l m F fr c (Adds w) Φs Es S D (listed.setIfInBounds i true)) (fun v w'' hR hΦi _ => by
          refine ⟨by simpa using hs, hcl', .inl ⟨hC.trans hR, fun k hk hk' => ?_, upd vals i v, rfl, fun j hj => ?_⟩⟩
          · exact hno k hk (back k (by omega) hk')
          · unfold upd
            by_cases hji : j = i
            · subst hji
              rw [if_pos rfl]
              exact hΦi
            · rw [if_neg hji]
              exact hΦ.get _ _ _ _ _ (hv j (back j hji hj)) hR)
        unfold wpOp
        rw [ho]
        show if Region.wanted o (yielded l.toArray (fr c vals).tmps) = true then _ else _
        split
        · rename_i hw
          rw [if_pos hw] at hrun
          exact .inl hrun
        · rename_i hw
          rw [if_neg hw] at hrun
          exact hrun
      · have heq : i = m := by
          rcases Nat.lt_or_ge m i with h | h
          · rcases htail i (by omega) hil m h with ⟨h3, _⟩ | h3
            · omega
            · exact absurd (hDl m h3) (hno m (Nat.le_refl _))
          · omega
        subst heq
        have hbe : ∀ j, j < i → F.contains j = false → listed[j]? = some true := fun j hj hf => by
          rcases htail i (Nat.le_refl _) hil j hj with ⟨_, h3⟩ | h3
          · rw [hf] at h3; cases h3
          · exact hDl j h3
        refine one _ (hwr o ho' vals w' hC (fun j hj hf => hv j (hbe j hj hf)) _ fun v w'' hSv => ⟨by simpa using hs, hcl', .inr (.inl ⟨here, fun k hk hk' => hno k (by omega) (back k (by omega) hk'), fun j hj hf => hmono j (hbe j hj hf), upd vals i v, rfl, ?_, fun j hj hj' => ?_⟩)⟩)
        · unfold upd
          rw [if_pos rfl]
          exact hSv
        · unfold upd
          rw [if_neg (by omega)]
          exact hE j _ w' hj (hv j (back j (by omega) hj'))
    · by_cases him : i < m
      · have hF : F.contains i = true := by
          cases hf : F.contains i with
          | true => rfl
          | false => rw [hbe i him hf] at hi'; cases hi'
        refine one _ (hfree i o him hF ho' vals w' _ fun v hEv => ⟨by simpa using hs, hcl', .inr (.inl ⟨hmono m hlm, fun k hk hk' => hno k hk (back k (by omega) hk'), fun j hj hf => hmono j (hbe j hj hf), upd vals i v, rfl, ?_, fun j hj hj' => ?_⟩)⟩)
        · unfold upd
          rw [if_neg (by omega)]
          exact hS
        · unfold upd
          by_cases hji : j = i
          · subst hji
            rw [if_pos rfl]
            exact hEv
          · rw [if_neg hji]
            exact hv j hj (back j hji hj')
      · have hne : i ≠ m := fun h => by subst h; rw [hlm] at hi'; cases hi'
        have heq : i = m + 1 := by
          rcases Nat.lt_or_ge (m + 1) i with h | h
          · rcases htail i (by omega) hil (m + 1) h with ⟨h3, _⟩ | h3
            · omega
            · exact absurd (hDl (m + 1) h3) (hno (m + 1) (by omega))
          · omega
        have hall1 : ∀ k, k < m + 1 → listed[k]? = some true := fun k hk => by
          rcases htail i (by omega) hil k (by omega) with ⟨h3, _⟩ | h3
          · omega
          · exact hDl k h3
        exact run (m + 1) (Nat.le_refl _) heq hall1 (fun k hk => hno k (by omega)) (hfin vals w' hS fun k hk => hv k hk (hall1 k (by omega)))
    · have heq : i = j := by
        have h1 : j ≤ i := by
          rcases Nat.lt_or_ge i j with h | h
          · exfalso
            have := hyes i h
            rw [hi'] at this
            cases this
          · exact h
        rcases Nat.lt_or_ge j i with h | h
        · rcases htail i (by omega) hil j h with ⟨h3, _⟩ | h3
          · omega
          · exact absurd (hDl j h3) (hno j (Nat.le_refl _))
        · omega
      exact run j (by omega) heq hyes hno hwp
  · show unlisted (Array.replicate l.toArray.size false) ≤ l.toArray.size
    unfold unlisted
    have := List.countP_le_length (p := (! ·)) (l := (Array.replicate l.toArray.size false).toList)
    simpa using this
  · have hnone : ∀ i : Nat, (Array.replicate l.toArray.size false)[i]? ≠ some true := by
      intro i hi
      rw [Array.getElem?_replicate] at hi
      split at hi <;> cases hi
    exact ⟨by simp, fun i o hi => absurd hi (hnone i), .inl ⟨(Adds.refl w).drew, fun i _ => hnone i, vals0, rfl, fun i hi => absurd hi (hnone i)⟩⟩

/-- a plain move, wherever it comes -/
theorem free_move {ops : Array Oper} {o : Oper} {a : Act} {w : World} {K : Act → World → Prop} {x : Operand} {v : Value} {E : Value → Prop} {B : Value → Act} (hg : o.guard = none) (ho : o.op = .move x) (hx : a.eval x = v)
    (hK : ∀ v, E v → K (B v) w) (hput : ∀ v, a.put o.dst v = B v) (hE : E v) : Region.wanted o (yielded ops a.tmps) = true ∧ o.wp P a w K Q := by
  refine ⟨wanted_none hg, Makes.wp (R := fun v' w' => v' = v ∧ w' = w) (makes_move (.inl ho) hx ⟨rfl, rfl⟩) ?_⟩
  rintro v' w' ⟨rfl, rfl⟩
  rw [hput]
  exact hK v' hE
theorem writer_of {ops : Array Oper} {o : Oper} {a : Act} {w : World} {K : Act → World → Prop} {S : Value → World → Prop} {B : Value → Act} (hg : o.guard = none) (hK : ∀ v w', S v w' → K (B v) w') (hput : ∀ v, a.put o.dst v = B v)
    (h : ∀ K2 : Act → World → Prop, (∀ v w', S v w' → K2 (a.put o.dst v) w') → o.wp P a w K2 Q) : Region.wanted o (yielded ops a.tmps) = true ∧ o.wp P a w K Q :=
  ⟨wanted_none hg, h K fun v w' hs => by rw [hput]; exact hK v w' hs⟩
end
end Go.PK
