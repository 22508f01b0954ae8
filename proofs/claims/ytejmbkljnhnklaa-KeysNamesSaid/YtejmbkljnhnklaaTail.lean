/-
  A region that draws its order, whose first operations only add memory and whose last ones each follow all that stand ahead of them: the first ones by what each leaves, whatever the order; then the last ones, one behind the other.
-/
import Derived.Test.YtejmbkljnhnklaaOwnW
namespace Go.PK
open Go.RowKit

/-- from the m-th operation on each follows all that are ahead of it -/
def tailOk (m : Nat) (ops : List Oper) (D : List (List Nat)) : Bool := (List.range ops.length).all fun i => i < m || (List.range i).all fun j => (D.getD i []).contains j

/-- slot k holds a block's address -/
def PtrAt (v : Value) (w : World) : Prop := ∃ g, v = .pointer (some ⟨g, 0, none⟩) ∧ g < w.heap.size
/-- 'Shows', and of the operations in As that each yields the address of the block that it makes -/
def ShowsA (P : Program) (ops : Array Oper) (Q : Exit → Act → World → Prop) (fr : (Nat → Value) → (Nat → Value) → Act) (X : (Nat → Value) → Prop) (C : World → Prop) (Φs : List (Value → World → Prop)) (D : List (List Nat)) (As : List Nat) :
    Nat → List Oper → Prop
  | _, [] => True
  | k, o :: rest =>
    ((∀ c vals v, (fr c vals).put o.dst v = fr c (upd vals k v)) ∧
     ∀ c, X c → ∀ vals w, C w → (∀ j, (D.getD k []).contains j = true → Φs.getD j (fun _ _ => True) (vals j) w) →
      ∀ K : Act → World → Prop, (∀ v w', Adds w w' → Φs.getD k (fun _ _ => True) v w' → (As.contains k = true → v = .pointer (some ⟨w.heap.size, 0, none⟩) ∧ w.heap.size < w'.heap.size) → K (fr c (upd vals k v)) w') →
       if Region.wanted o (yielded ops (fr c vals).tmps) = true then o.wp P (fr c vals) w K Q else K ((fr c vals).put o.dst undef) w) ∧
    ShowsA P ops Q fr X C Φs D As (k + 1) rest
theorem ShowsA.get {P : Program} {Q : Exit → Act → World → Prop} {ops : Array Oper} {fr : (Nat → Value) → (Nat → Value) → Act} {X : (Nat → Value) → Prop} {C : World → Prop} {Φs : List (Value → World → Prop)} {D : List (List Nat)} {As : List Nat} :
    ∀ (l : List Oper) (k : Nat), ShowsA P ops Q fr X C Φs D As k l → ∀ i o, l[i]? = some o →
    ((∀ c vals v, (fr c vals).put o.dst v = fr c (upd vals (k + i) v)) ∧
     ∀ c, X c → ∀ vals w, C w → (∀ j, (D.getD (k + i) []).contains j = true → Φs.getD j (fun _ _ => True) (vals j) w) →
      ∀ K : Act → World → Prop, (∀ v w', Adds w w' → Φs.getD (k + i) (fun _ _ => True) v w' → (As.contains (k + i) = true → v = .pointer (some ⟨w.heap.size, 0, none⟩) ∧ w.heap.size < w'.heap.size) → K (fr c (upd vals (k + i) v)) w') →
       if Region.wanted o (yielded ops (fr c vals).tmps) = true then o.wp P (fr c vals) w K Q else K ((fr c vals).put o.dst undef) w) := by
  intro l
  induction l with
  | nil => intro k _ i o h; simp at h
  | cons x l ih =>
    intro k h i o hi
    obtain ⟨h1, h2⟩ := h
    cases i with
    | zero =>
      simp at hi
      subst hi
      exact h1
    | succ i =>
      have := ih (k + 1) h2 i o (by simpa using hi)
      rwa [show k + 1 + i = k + (i + 1) from by omega] at this

section
variable {P : Program} {Q : Exit → Act → World → Prop}
/-- what holds when the operations in 'listed' have run -/
def ThenInv (P : Program) (Q : Exit → Act → World → Prop) (l : List Oper) (m : Nat) (fr : (Nat → Value) → (Nat → Value) → Act) (c : Nat → Value) (C : World → Prop) (Φs : List (Value → World → Prop)) (D : List (List Nat)) (As : List Nat) (listed : Array Bool) (a : Act) (w' : World) : Prop :=
  listed.size = l.length ∧ (∀ i o, listed[i]? = some true → l[i]? = some o → (∀ k ∈ bound o, listed[k]? = some true) ∧ ∀ j, (D.getD i []).contains j = true → listed[j]? = some true) ∧
  ((C w' ∧ (∀ i, m ≤ i → listed[i]? ≠ some true) ∧ ∃ vals, a = fr c vals ∧ (∀ i, listed[i]? = some true → Φs.getD i (fun _ _ => True) (vals i) w') ∧ (∀ i, As.contains i = true → listed[i]? = some true → PtrAt (vals i) w') ∧
    ∀ i j, i ≠ j → As.contains i = true → As.contains j = true → listed[i]? = some true → listed[j]? = some true → vals i ≠ vals j) ∨
   (∃ j, m < j ∧ (∀ i, i < j → listed[i]? = some true) ∧ (∀ i, j ≤ i → listed[i]? ≠ some true) ∧ wpList P l.toArray Q (l.drop j) a w'))

theorem wp_region_then {id : Nat} {l1 l2 : List Oper} (fr : (Nat → Value) → (Nat → Value) → Act) (c vals0 : Nat → Value) {w : World} (hm : P.follows .mixedOrders = true)
    (D : List (List Nat)) (hD : aheadOk (l1 ++ l2) D = true) (hT : tailOk l1.length (l1 ++ l2) D = true) (X : (Nat → Value) → Prop) (hX : X c)
    (Φs : List (Value → World → Prop)) (hΦ : StableAll Φs)
    (As : List Nat) (hshow : ShowsA P (l1 ++ l2).toArray Q fr X (Adds w) Φs D As 0 l1)
    (hfin : ∀ vals w', Adds w w' → (∀ i, i < l1.length → Φs.getD i (fun _ _ => True) (vals i) w') → (∀ i j, i ≠ j → i < l1.length → j < l1.length → As.contains i = true → As.contains j = true → vals i ≠ vals j) → wpList P (l1 ++ l2).toArray Q l2 (fr c vals) w') : (Code.region id (l1 ++ l2).toArray true).wp P Q (fr c vals0) w := by
  refine wp_region_any hm ?_
  have hdrew : ({ w with drawn := w.drawn + 1 } : World) = w.drew := rfl
  rw [hdrew]
  obtain ⟨l, hl⟩ : ∃ l, l = l1 ++ l2 := ⟨_, rfl⟩
  obtain ⟨m, hmm⟩ : ∃ m, m = l1.length := ⟨_, rfl⟩
  have hl1 : ∀ i, i < m → l[i]? = l1[i]? := fun i hi => by rw [hl, List.getElem?_append_left (by omega)]
  have hdrop : l.drop m = l2 := by rw [hl, hmm]; simp
  rw [← hl] at hD hT hshow hfin ⊢
  rw [← hmm] at hT hfin
  rw [← hdrop] at hfin
  have hle : m ≤ l.length := by rw [hl, hmm]; simp
  have hacyc : ∀ i o, l[i]? = some o → (∀ k ∈ bound o, k < i) ∧ ∀ j, (D.getD i []).contains j = true → j ∈ bound o ∨ ∃ k ∈ bound o, (D.getD k []).contains j = true := by
    intro i o ho
    unfold aheadOk at hD
    rw [List.all_eq_true] at hD
    have := hD (o, i) (by rw [List.mem_iff_getElem?]; exact ⟨i, by simp [ho]⟩)
    simp only [Bool.and_eq_true, List.all_eq_true] at this
    obtain ⟨h1, h2⟩ := this
    refine ⟨fun k hk => by simpa using h1 k hk, fun j hj => ?_⟩
    have := h2 j (by simpa using hj)
    rw [Bool.or_eq_true] at this
    rcases this with h | h
    · exact .inl (by simpa using h)
    · rw [List.any_eq_true] at h
      obtain ⟨k, hk, hj'⟩ := h
      exact .inr ⟨k, hk, hj'⟩
  have htail : ∀ i, m ≤ i → i < l.length → ∀ j, j < i → (D.getD i []).contains j = true := by
    intro i h1 h2 j hj
    unfold tailOk at hT
    rw [List.all_eq_true] at hT
    have := hT i (List.mem_range.2 h2)
    rw [Bool.or_eq_true] at this
    rcases this with h | h
    · have : i < m := by simpa using h
      omega
    · rw [List.all_eq_true] at h
      exact h j (List.mem_range.2 hj)
  refine wpAny_inv (I := ThenInv P Q l m fr c (Adds w) Φs D As) ?_ ?_ _ _ _ _ ?_ ?_
  · rintro listed a w' ⟨hs, hcl, hor⟩ hr
    have hall : ∀ i, i < l.length → listed[i]? = some true := by
      intro i
      induction i using Nat.strongRecOn with
      | ind i ih =>
        intro hi
        have hil : i < listed.size := by omega
        cases hb : listed[i] with
        | true => simp [hil, hb]
        | false =>
          exfalso
          have ho : l[i]? = some l[i] := List.getElem?_eq_getElem hi
          have hmem : i ∈ Region.ready .any l.toArray listed := by
            unfold Region.ready
            rw [List.mem_filter]
            refine ⟨by simp [hi], ?_⟩
            rw [Bool.and_eq_true]
            refine ⟨by simp [Array.getD, hil, hb], ?_⟩
            have : l.toArray[i]? = some l[i] := by simp
            rw [this]
            simp only [Option.map_some, Option.getD_some]
            rw [Array.all_eq_true']
            intro e he
            cases hbd : Region.binds .any e with
            | false => rfl
            | true =>
              have hk : e.on ∈ bound l[i] := by
                unfold bound
                rw [List.mem_map]
                exact ⟨e, List.mem_filter.2 ⟨Array.mem_toList_iff.2 he, hbd⟩, rfl⟩
              have hlt := (hacyc i l[i] ho).1 e.on hk
              have hle := ih e.on hlt (by omega)
              have hlt' : e.on < listed.size := by omega
              simp only [Array.getD, hlt', dite_true, Bool.not_true, Bool.false_or]
              rw [Array.getElem?_eq_getElem hlt'] at hle
              exact Option.some.inj hle
          rw [hr] at hmem
          cases hmem
    rcases hor with ⟨hC, hno, vals, rfl, hv, hp, hne⟩ | ⟨j, hj, hyes, hno, hwp⟩
    · have hml : m = l.length := by
        rcases Nat.lt_or_ge m l.length with h | h
        · exact absurd (hall m h) (hno m (Nat.le_refl _))
        · omega
      have := hfin vals w' hC (fun i hi => hv i (hall i (by omega))) (fun i j hij hi hj ai aj => hne i j hij ai aj (hall i (by omega)) (hall j (by omega)))
      rw [List.drop_of_length_le (by omega)] at this
      exact this
    · have hjl : l.length ≤ j := by
        rcases Nat.lt_or_ge j l.length with h | h
        · exact absurd (hall j h) (hno j (Nat.le_refl _))
        · exact h
      rw [List.drop_of_length_le hjl] at hwp
      exact hwp
  · rintro listed a w' i ⟨hs, hcl, hor⟩ hi
    obtain ⟨hun, o, ho, hbd⟩ := Go.PK.mem_ready hi
    have ho' : l[i]? = some o := by simpa using ho
    have hil : i < l.length := (List.getElem?_eq_some_iff.1 ho').1
    have hbd' : ∀ k ∈ bound o, listed[k]? = some true := by
      intro k hk
      unfold bound at hk
      rw [List.mem_map] at hk
      obtain ⟨e, he, rfl⟩ := hk
      rw [List.mem_filter] at he
      have := hbd e he.1 he.2
      by_cases hlt : e.on < listed.size
      · simp [Array.getD, hlt] at this
        simp [hlt, this]
      · simp [Array.getD, hlt] at this
    have hDl : ∀ j, (D.getD i []).contains j = true → listed[j]? = some true := by
      intro j hj
      rcases (hacyc i o ho').2 j hj with h | ⟨k, hk, hj'⟩
      · exact hbd' j h
      · have hkl := hbd' k hk
        have hklt : k < l.length := by have := (hacyc i o ho').1 k hk; omega
        exact (hcl k l[k] hkl (List.getElem?_eq_getElem hklt)).2 j hj'
    have hi' : listed[i]? = some false := by
      have hlt : i < listed.size := by omega
      simp [Array.getD, hlt] at hun
      simp [hlt, hun]
    have hmono : ∀ j : Nat, listed[j]? = some true → (listed.setIfInBounds i true)[j]? = some true := by
      intro j hj
      rw [Array.getElem?_setIfInBounds]
      split
      · rename_i h
        subst h
        rw [if_pos (by omega)]
      · exact hj
    have hcl' : ∀ j o', (listed.setIfInBounds i true)[j]? = some true → l[j]? = some o' → (∀ k ∈ bound o', (listed.setIfInBounds i true)[k]? = some true) ∧ ∀ k, (D.getD j []).contains k = true → (listed.setIfInBounds i true)[k]? = some true := by
      intro j o' hj ho''
      by_cases hji : j = i
      · subst hji
        rw [ho'] at ho''
        cases ho''
        exact ⟨fun k hk => hmono k (hbd' k hk), fun j' hj' => hmono j' (hDl j' hj')⟩
      · rw [Array.getElem?_setIfInBounds_ne (Ne.symm hji)] at hj
        obtain ⟨g1, g2⟩ := hcl j o' hj ho''
        exact ⟨fun k hk => hmono k (g1 k hk), fun j' hj' => hmono j' (g2 j' hj')⟩
    -- an operation of the tail, out of what 'wpList' says
    have run : ∀ j, m ≤ j → i = j → (∀ k, k < j → listed[k]? = some true) → (∀ k, j ≤ k → listed[k]? ≠ some true) → wpList P l.toArray Q (l.drop j) a w' → wpOp P l.toArray Q i (ThenInv P Q l m fr c (Adds w) Φs D As (listed.setIfInBounds i true)) a w' := by
      intro j hj hij hyes hno hwp
      subst hij
      rw [List.drop_eq_getElem_cons hil] at hwp
      have hoi : l[i] = o := by rw [List.getElem?_eq_getElem hil] at ho'; exact Option.some.inj ho'
      rw [hoi] at hwp
      have hnext : ∀ a2 w2, wpList P l.toArray Q (l.drop (i + 1)) a2 w2 → ThenInv P Q l m fr c (Adds w) Φs D As (listed.setIfInBounds i true) a2 w2 := by
        intro a2 w2 h2
        refine ⟨by simpa using hs, hcl', .inr ⟨i + 1, by omega, fun k hk => ?_, fun k hk hk' => ?_, h2⟩⟩
        · by_cases hki : k = i
          · subst hki
            rw [Array.getElem?_setIfInBounds, if_pos rfl, if_pos (by omega)]
          · exact hmono k (hyes k (by omega))
        rw [Array.getElem?_setIfInBounds_ne (by omega)] at hk'
        exact hno k (by omega) hk'
      unfold wpOp
      rw [ho]
      show if Region.wanted o (yielded l.toArray a.tmps) = true then _ else _
      unfold wpList at hwp
      split
      · rename_i hw
        rw [if_pos hw] at hwp
        exact hwp.imp (Oper.wp_mono hnext) fun h => h
      · rename_i hw
        rw [if_neg hw] at hwp
        exact hnext _ _ hwp
    rcases hor with ⟨hC, hno, vals, rfl, hv, hp, hne⟩ | ⟨j, hj, hyes, hno, hwp⟩
    · by_cases him : i < m
      · have hsh := ShowsA.get _ 0 hshow i o (by rw [← hl1 i him]; exact ho')
        rw [Nat.zero_add] at hsh
        obtain ⟨hput, hsh⟩ := hsh
        have hrun := hsh c hX vals w' hC (fun j hj => hv j (hDl j hj)) (ThenInv P Q l m fr c (Adds w) Φs D As (listed.setIfInBounds i true)) (fun v w'' hR hΦi hnew => by
          have back : ∀ j, j ≠ i → (listed.setIfInBounds i true)[j]? = some true → listed[j]? = some true := fun j hj h => by
            rwa [Array.getElem?_setIfInBounds_ne (Ne.symm hj)] at h
          refine ⟨by simpa using hs, hcl', .inl ⟨hC.trans hR, fun k hk hk' => ?_, upd vals i v, rfl, fun j hj => ?_, fun j aj hj => ?_, fun j k hjk aj ak hj hk => ?_⟩⟩
          · rw [Array.getElem?_setIfInBounds_ne (by omega)] at hk'
            exact hno k hk hk'
          · unfold upd
            by_cases hji : j = i
            · subst hji
              rw [if_pos rfl]
              exact hΦi
            · rw [if_neg hji]
              rw [Array.getElem?_setIfInBounds_ne (Ne.symm hji)] at hj
              exact hΦ.get _ _ _ _ _ (hv j hj) hR
          · unfold upd
            by_cases hji : j = i
            · subst hji
              rw [if_pos rfl]
              obtain ⟨h1, h2⟩ := hnew aj
              exact ⟨_, h1, h2⟩
            · rw [if_neg hji]
              obtain ⟨g, h1, h2⟩ := hp j aj (back j hji hj)
              exact ⟨g, h1, Nat.lt_of_lt_of_le h2 hR.size⟩
          · unfold upd
            by_cases hji : j = i
            · subst hji
              rw [if_pos rfl, if_neg (Ne.symm hjk)]
              obtain ⟨h1, h2⟩ := hnew aj
              obtain ⟨g, h3, h4⟩ := hp k ak (back k (Ne.symm hjk) hk)
              rw [h1, h3]
              intro h
              simp at h
              all_goals omega
            · by_cases hki : k = i
              · subst hki
                rw [if_neg hji, if_pos rfl]
                obtain ⟨h1, h2⟩ := hnew ak
                obtain ⟨g, h3, h4⟩ := hp j aj (back j hji hj)
                rw [h1, h3]
                intro h
                simp at h
                all_goals omega
              · rw [if_neg hji, if_neg hki]
                exact hne j k hjk aj ak (back j hji hj) (back k hki hk))
        unfold wpOp
        rw [ho]
        show if Region.wanted o (yielded l.toArray (fr c vals).tmps) = true then _ else _
        split
        · rename_i hw
          rw [if_pos hw] at hrun
          exact .inl hrun
        · rename_i hw
          rw [if_neg hw] at hrun
          exact hrun
      · have heq : i = m := by
          rcases Nat.lt_or_ge m i with h | h
          · exact absurd (hDl m (htail i (by omega) hil m h)) (hno m (Nat.le_refl _))
          · omega
        have hall1 : ∀ k, k < m → listed[k]? = some true := fun k hk => hDl k (htail i (by omega) hil k (by omega))
        exact run m (Nat.le_refl _) heq hall1 hno (hfin vals w' hC (fun k hk => hv k (hall1 k hk)) fun i j hij hi hj ai aj => hne i j hij ai aj (hall1 i hi) (hall1 j hj))
    · have heq : i = j := by
        have h1 : j ≤ i := by
          rcases Nat.lt_or_ge i j with h | h
          · exfalso
            -- what is ahead of j has run
            have := hyes i h
            rw [hi'] at this
            cases this
          · exact h
        rcases Nat.lt_or_ge j i with h | h
        · exact absurd (hDl j (htail i (by omega) hil j h)) (hno j (Nat.le_refl _))
        · omega
      exact run j (by omega) heq hyes hno hwp
  · show unlisted (Array.replicate l.toArray.size false) ≤ l.toArray.size
    unfold unlisted
    have := List.countP_le_length (p := (! ·)) (l := (Array.replicate l.toArray.size false).toList)
    simpa using this
  · have hnone : ∀ i : Nat, (Array.replicate l.toArray.size false)[i]? ≠ some true := by
      intro i hi
      rw [Array.getElem?_replicate] at hi
      split at hi <;> cases hi
    exact ⟨by simp, fun i o hi => absurd hi (hnone i), .inl ⟨(Adds.refl w).drew, fun i _ => hnone i, vals0, rfl, fun i hi => absurd hi (hnone i), fun i _ hi => absurd hi (hnone i), fun i j _ _ _ hi => absurd hi (hnone i)⟩⟩

/-- the list parted at m -/
theorem wp_region_tail {id : Nat} {l : List Oper} (m : Nat) (hml : m ≤ l.length) (fr : (Nat → Value) → (Nat → Value) → Act) (c vals0 : Nat → Value) {w : World} (hm : P.follows .mixedOrders = true)
    (D : List (List Nat)) (hD : aheadOk l D = true) (hT : tailOk m l D = true) (X : (Nat → Value) → Prop) (hX : X c)
    (Φs : List (Value → World → Prop)) (hΦ : StableAll Φs) (As : List Nat)
    (hshow : ShowsA P l.toArray Q fr X (Adds w) Φs D As 0 (l.take m))
    (hfin : ∀ vals w', Adds w w' → (∀ i, i < m → Φs.getD i (fun _ _ => True) (vals i) w') → (∀ i j, i ≠ j → i < m → j < m → As.contains i = true → As.contains j = true → vals i ≠ vals j) → wpList P l.toArray Q (l.drop m) (fr c vals) w') :
    (Code.region id l.toArray true).wp P Q (fr c vals0) w := by
  have hlen : (l.take m).length = m := by simp; omega
  have := wp_region_then (P := P) (Q := Q) (id := id) (l1 := l.take m) (l2 := l.drop m) fr c vals0 (w := w) hm D (by rw [List.take_append_drop]; exact hD) (by rw [List.take_append_drop, hlen]; exact hT) X hX Φs hΦ As
    (by rw [List.take_append_drop]; exact hshow) (by rw [List.take_append_drop, hlen]; exact hfin)
  rwa [List.take_append_drop] at this
/-- a new block beside what is owned -/
theorem Mem.addNew {G : List Nat} {w0 w w' : World} {L : List Blk} (hM : Mem G w0 w L) (ha : Adds w w') {g : Nat} {t : TypeId} {C : List Value} {N : Nat} (hh : (Blk.mk (some g) t C N).holds w') (hg : w.heap.size ≤ g) : Mem G w0 w' (⟨some g, t, C, N⟩ :: L) := by
  have h := hM.adds ha
  refine ⟨h.touch, fun b hb => ?_, fun b hb => ?_, ?_⟩
  · simp at hb
    rcases hb with rfl | hb
    · exact hh
    · exact h.holds b hb
  · simp at hb
    rcases hb with rfl | hb
    · intro g' hg'
      cases hg'
      exact .inr (Nat.le_trans hM.touch.size hg)
    · exact h.own b hb
  · simp only [List.filterMap_cons, List.nodup_cons]
    refine ⟨fun hm => ?_, h.nodup⟩
    obtain ⟨b, hb, he⟩ := mem_ids.1 hm
    have := (hM.holds b hb).lt he
    omega
/-- two new blocks beside what is owned -/
theorem Mem.addNew2 {G : List Nat} {w0 w w' : World} {L : List Blk} (hM : Mem G w0 w L) (ha : Adds w w') {g1 g2 : Nat} {t1 t2 : TypeId} {C1 C2 : List Value} {N1 N2 : Nat} (h1 : (Blk.mk (some g1) t1 C1 N1).holds w') (h2 : (Blk.mk (some g2) t2 C2 N2).holds w')
    (hg1 : w.heap.size ≤ g1) (hg2 : w.heap.size ≤ g2) (hne : g1 ≠ g2) : Mem G w0 w' (⟨some g1, t1, C1, N1⟩ :: ⟨some g2, t2, C2, N2⟩ :: L) := by
  have h := hM.addNew ha h2 hg2
  refine ⟨h.touch, fun b hb => ?_, fun b hb => ?_, ?_⟩
  · rw [List.mem_cons] at hb
    rcases hb with rfl | hb
    · exact h1
    · exact h.holds b hb
  · rw [List.mem_cons] at hb
    rcases hb with rfl | hb
    · intro g' hg'
      cases hg'
      exact .inr (Nat.le_trans hM.touch.size hg1)
    · exact h.own b hb
  · rw [List.filterMap_cons]
    simp only
    rw [List.nodup_cons]
    refine ⟨fun hm => ?_, h.nodup⟩
    obtain ⟨b, hb, he⟩ := mem_ids.1 hm
    rw [List.mem_cons] at hb
    rcases hb with rfl | hb
    · cases he; exact hne rfl
    · have := (hM.holds b hb).lt he
      omega
theorem wp_new_region {o : Oper} {a : Act} {K : Act → World → Prop} {ty : TypeId} {C : List Value} {n : Nat} {w ww : World} (ho : o.op = .alloc ty) (hz : Zr P ty C n) (hC : Adds w ww)
    (hK : ∀ v w', Adds ww w' → (∃ g, v = .pointer (some ⟨g, 0, none⟩) ∧ w.heap.size ≤ g ∧ (Blk.mk (some g) ty C n).holds w') → (v = .pointer (some ⟨ww.heap.size, 0, none⟩) ∧ ww.heap.size < w'.heap.size) → K (a.put o.dst v) w') : o.wp P a ww K Q := by
  obtain ⟨z, hz1, hz2, rfl⟩ := hz
  unfold Oper.wp execOp
  simp only [ho, Sem.run_bind, Sem.run_pure, Result.andThen_ok, run_alloc_of hz1 hz2]
  exact hK _ _ ((Below.refl _ _).alloc (Nat.le_refl _) _) ⟨_, rfl, hC.size, [], by rw [List.append_nil]; exact Row.new ww ty C, by simp⟩ ⟨rfl, by simp⟩
theorem Blk.holds.adds {b : Blk} {w w' : World} (h : b.holds w) (ha : Adds w w') : b.holds w' := h.of_block fun g hg => ha.block g (h.lt hg)
end
end Go.PK
