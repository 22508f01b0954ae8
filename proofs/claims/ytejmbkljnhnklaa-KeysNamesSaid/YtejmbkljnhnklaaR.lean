/-
  A region that draws its order, walked once in the order of the text: of each operation it is shown, out of what the operations that it follows have left, what it leaves; whatever the order.
-/
import Derived.Test.YtejmbkljnhnklaaM
namespace Go.PK
open Go.RowKit

/-- what slot j holds, operation k's value laid down -/
def upd (vals : Nat → Value) (k : Nat) (v : Value) : Nat → Value := fun j => if j = k then v else vals j

section
variable {P : Program} {Q : Exit → Act → World → Prop}

def unlisted (listed : Array Bool) : Nat := listed.toList.countP (! ·)

theorem unlisted_set {listed : Array Bool} {i : Nat} (h : listed[i]? = some false) : unlisted (listed.setIfInBounds i true) + 1 = unlisted listed := by
  unfold unlisted
  rw [Array.toList_setIfInBounds]
  have h' : listed.toList[i]? = some false := by rw [Array.getElem?_toList]; exact h
  generalize listed.toList = l at *
  clear h
  induction l generalizing i with
  | nil => simp at h'
  | cons b l ih =>
    cases i with
    | zero =>
      simp at h'
      subst h'
      simp
    | succ i =>
      simp at h'
      rw [List.set_cons_succ, List.countP_cons, List.countP_cons]
      have := ih (i := i) (by simpa using h')
      omega

theorem unlisted_zero {listed : Array Bool} (h : unlisted listed = 0) (i : Nat) : listed.getD i true = true := by
  unfold unlisted at h
  rw [List.countP_eq_zero] at h
  by_cases hi : i < listed.size
  · have := h listed[i] (by simp)
    simpa [Array.getD, hi] using this
  · simp [Array.getD, hi]

theorem mem_ready {md : Region.Mode} {ops : Array Oper} {listed : Array Bool} {i : Nat} (h : i ∈ Region.ready md ops listed) :
    listed.getD i true = false ∧ ∃ o, ops[i]? = some o ∧ ∀ e ∈ o.after.toList, Region.binds md e = true → listed.getD e.on false = true := by
  unfold Region.ready at h
  rw [List.mem_filter] at h
  obtain ⟨h1, h2⟩ := h
  rw [Bool.and_eq_true] at h2
  obtain ⟨h2, h3⟩ := h2
  refine ⟨by simpa using h2, ?_⟩
  cases ho : ops[i]? with
  | none => simp [ho] at h3
  | some o =>
    refine ⟨o, rfl, fun e he hb => ?_⟩
    rw [ho] at h3
    simp only [Option.map_some, Option.getD_some] at h3
    rw [Array.all_eq_true'] at h3
    have := h3 e (Array.mem_toList_iff.1 he)
    rw [hb] at this
    simpa using this

theorem wpAny_inv {md : Region.Mode} {ops : Array Oper} (I : Array Bool → Act → World → Prop)
    (hend : ∀ listed a w, I listed a w → Region.ready md ops listed = [] → Q .normal a w)
    (hstep : ∀ listed a w i, I listed a w → i ∈ Region.ready md ops listed → wpOp P ops Q i (I (listed.setIfInBounds i true)) a w) :
    ∀ (fuel : Nat) (listed : Array Bool) (a : Act) (w : World), unlisted listed ≤ fuel → I listed a w → wpAny P md ops Q fuel listed a w := by
  intro fuel
  induction fuel with
  | zero =>
    intro listed a w hf hI
    have hr : Region.ready md ops listed = [] := by
      apply List.eq_nil_iff_forall_not_mem.2
      intro i hi
      have := (mem_ready hi).1
      rw [unlisted_zero (by omega)] at this
      cases this
    exact ⟨hr, hend _ _ _ hI hr⟩
  | succ fuel ih =>
    intro listed a w hf hI
    refine ⟨fun hr => hend _ _ _ hI hr, fun i hi => ?_⟩
    refine wpOp_mono (fun a' w' hI' => ih _ a' w' ?_ hI') (hstep listed a w i hI hi)
    have h1 := (mem_ready hi).1
    have h2 : listed[i]? = some false := by
      by_cases hs : i < listed.size
      · simp [Array.getD, hs] at h1
        simp [hs, h1]
      · simp [Array.getD, hs] at h1
    have := unlisted_set h2
    omega

/-- the edges of an operation that bind in whatever order -/
def bound (o : Oper) : List Nat := (o.after.toList.filter (Region.binds .any)).map (·.on)

/-- D tells, of each operation, some that come ahead of it; each is an edge's end, or one of an edge's end -/
def aheadOk (ops : List Oper) (D : List (List Nat)) : Bool :=
  ops.zipIdx.all fun (o, i) => (bound o).all (· < i) && (D.getD i []).all fun j => (bound o).contains j || (bound o).any fun k => (D.getD k []).contains j

/-- What is shown of the operations, one behind the other: 'fr' the frame, 'X' what the slots hold that the region doesn't write, 'R' what becomes of the world, 'C' what holds of it, 'Φs' what each operation leaves in its slot. -/
def Shows (P : Program) (ops : Array Oper) (Q : Exit → Act → World → Prop) (fr : (Nat → Value) → (Nat → Value) → Act) (X : (Nat → Value) → Prop) (R : World → World → Prop) (C : World → Prop) (Φs : List (Value → World → Prop)) (D : List (List Nat)) :
    Nat → List Oper → Prop
  | _, [] => True
  | k, o :: rest =>
    ((∀ c vals v, (fr c vals).put o.dst v = fr c (upd vals k v)) ∧
     ∀ c, X c → ∀ vals w, C w → (∀ j, (D.getD k []).contains j = true → Φs.getD j (fun _ _ => True) (vals j) w) →
      ∀ K : Act → World → Prop, (∀ v w', R w w' → Φs.getD k (fun _ _ => True) v w' → K (fr c (upd vals k v)) w') →
       if Region.wanted o (yielded ops (fr c vals).tmps) = true then o.wp P (fr c vals) w K Q else K ((fr c vals).put o.dst undef) w) ∧
    Shows P ops Q fr X R C Φs D (k + 1) rest

theorem Shows.get {ops : Array Oper} {fr : (Nat → Value) → (Nat → Value) → Act} {X : (Nat → Value) → Prop} {R : World → World → Prop} {C : World → Prop} {Φs : List (Value → World → Prop)} {D : List (List Nat)} :
    ∀ (l : List Oper) (k : Nat), Shows P ops Q fr X R C Φs D k l → ∀ i o, l[i]? = some o →
    ((∀ c vals v, (fr c vals).put o.dst v = fr c (upd vals (k + i) v)) ∧
     ∀ c, X c → ∀ vals w, C w → (∀ j, (D.getD (k + i) []).contains j = true → Φs.getD j (fun _ _ => True) (vals j) w) →
      ∀ K : Act → World → Prop, (∀ v w', R w w' → Φs.getD (k + i) (fun _ _ => True) v w' → K (fr c (upd vals (k + i) v)) w') →
       if Region.wanted o (yielded ops (fr c vals).tmps) = true then o.wp P (fr c vals) w K Q else K ((fr c vals).put o.dst undef) w) := by
  intro l
  induction l with
  | nil => intro k _ i o h; simp at h
  | cons x l ih =>
    intro k h i o hi
    obtain ⟨h1, h2⟩ := h
    cases i with
    | zero =>
      simp at hi
      subst hi
      exact h1
    | succ i =>
      have := ih (k + 1) h2 i o (by simpa using hi)
      rwa [show k + 1 + i = k + (i + 1) from by omega] at this

/-- what holds when the operations in 'listed' have run -/
def RelInv (l : List Oper) (fr : (Nat → Value) → (Nat → Value) → Act) (c : Nat → Value) (C : World → Prop) (Φs : List (Value → World → Prop)) (D : List (List Nat)) (listed : Array Bool) (a : Act) (w' : World) : Prop :=
  listed.size = l.length ∧ C w' ∧ (∃ vals, a = fr c vals ∧ ∀ i, listed[i]? = some true → Φs.getD i (fun _ _ => True) (vals i) w') ∧
    ∀ i o, listed[i]? = some true → l[i]? = some o → (∀ k ∈ bound o, listed[k]? = some true) ∧ ∀ j, (D.getD i []).contains j = true → listed[j]? = some true

theorem wp_region_rel {id : Nat} {l : List Oper} (fr : (Nat → Value) → (Nat → Value) → Act) (c vals0 : Nat → Value) {w : World} (hm : P.follows .mixedOrders = true)
    (D : List (List Nat)) (hD : aheadOk l D = true) (X : (Nat → Value) → Prop) (hX : X c) (R : World → World → Prop) (C : World → Prop) (hC0 : C w.drew) (hCR : ∀ w w', C w → R w w' → C w')
    (Φs : List (Value → World → Prop)) (hΦ : ∀ i x w w', Φs.getD i (fun _ _ => True) x w → R w w' → Φs.getD i (fun _ _ => True) x w')
    (hshow : Shows P l.toArray Q fr X R C Φs D 0 l)
    (hfin : ∀ vals w', C w' → (∀ i, i < l.length → Φs.getD i (fun _ _ => True) (vals i) w') → Q .normal (fr c vals) w') : (Code.region id l.toArray true).wp P Q (fr c vals0) w := by
  refine wp_region_any hm ?_
  have hdrew : ({ w with drawn := w.drawn + 1 } : World) = w.drew := rfl
  rw [hdrew]
  have hacyc : ∀ i o, l[i]? = some o → (∀ k ∈ bound o, k < i) ∧ ∀ j, (D.getD i []).contains j = true → j ∈ bound o ∨ ∃ k ∈ bound o, (D.getD k []).contains j = true := by
    intro i o ho
    unfold aheadOk at hD
    rw [List.all_eq_true] at hD
    have := hD (o, i) (by rw [List.mem_iff_getElem?]; exact ⟨i, by simp [ho]⟩)
    simp only [Bool.and_eq_true, List.all_eq_true] at this
    obtain ⟨h1, h2⟩ := this
    refine ⟨fun k hk => by simpa using h1 k hk, fun j hj => ?_⟩
    have := h2 j (by simpa using hj)
    rw [Bool.or_eq_true] at this
    rcases this with h | h
    · exact .inl (by simpa using h)
    · rw [List.any_eq_true] at h
      obtain ⟨k, hk, hj'⟩ := h
      exact .inr ⟨k, hk, hj'⟩
  refine wpAny_inv (I := RelInv l fr c C Φs D) ?_ ?_ _ _ _ _ ?_ ?_
  · rintro listed a w' ⟨hs, hC, ⟨vals, rfl, hv⟩, hcl⟩ hr
    refine hfin vals w' hC fun i hi => hv i ?_
    -- all are listed: the least that is not could come
    have hall : ∀ i, i < l.length → listed[i]? = some true := by
      intro i
      induction i using Nat.strongRecOn with
      | ind i ih =>
        intro hi
        have hil : i < listed.size := by omega
        cases hb : listed[i] with
        | true => simp [hil, hb]
        | false =>
          exfalso
          have ho : l[i]? = some l[i] := List.getElem?_eq_getElem hi
          have hmem : i ∈ Region.ready .any l.toArray listed := by
            unfold Region.ready
            rw [List.mem_filter]
            refine ⟨by simp [hi], ?_⟩
            rw [Bool.and_eq_true]
            refine ⟨by simp [Array.getD, hil, hb], ?_⟩
            have : l.toArray[i]? = some l[i] := by simp
            rw [this]
            simp only [Option.map_some, Option.getD_some]
            rw [Array.all_eq_true']
            intro e he
            cases hbd : Region.binds .any e with
            | false => rfl
            | true =>
              have hk : e.on ∈ bound l[i] := by
                unfold bound
                rw [List.mem_map]
                exact ⟨e, List.mem_filter.2 ⟨Array.mem_toList_iff.2 he, hbd⟩, rfl⟩
              have hlt := (hacyc i l[i] ho).1 e.on hk
              have hle := ih e.on hlt (by omega)
              have hlt' : e.on < listed.size := by omega
              simp only [Array.getD, hlt', dite_true, Bool.not_true, Bool.false_or]
              rw [Array.getElem?_eq_getElem hlt'] at hle
              exact Option.some.inj hle
          rw [hr] at hmem
          cases hmem
    exact hall i hi
  · rintro listed a w' i ⟨hs, hC, ⟨vals, rfl, hv⟩, hcl⟩ hi
    obtain ⟨hun, o, ho, hbd⟩ := mem_ready hi
    have ho' : l[i]? = some o := by simpa using ho
    have hil : i < l.length := (List.getElem?_eq_some_iff.1 ho').1
    have hbd' : ∀ k ∈ bound o, listed[k]? = some true := by
      intro k hk
      unfold bound at hk
      rw [List.mem_map] at hk
      obtain ⟨e, he, rfl⟩ := hk
      rw [List.mem_filter] at he
      have := hbd e he.1 he.2
      by_cases hlt : e.on < listed.size
      · simp [Array.getD, hlt] at this
        simp [hlt, this]
      · simp [Array.getD, hlt] at this
    have hDl : ∀ j, (D.getD i []).contains j = true → listed[j]? = some true := by
      intro j hj
      rcases (hacyc i o ho').2 j hj with h | ⟨k, hk, hj'⟩
      · exact hbd' j h
      · have hkl := hbd' k hk
        have hklt : k < l.length := by have := (hacyc i o ho').1 k hk; omega
        exact (hcl k l[k] hkl (List.getElem?_eq_getElem hklt)).2 j hj'
    have hsh := Shows.get l 0 hshow i o ho'
    rw [Nat.zero_add] at hsh
    obtain ⟨hput, hsh⟩ := hsh
    have hfin' : ∀ v w'', R w' w'' → Φs.getD i (fun _ _ => True) v w'' →
        RelInv l fr c C Φs D (listed.setIfInBounds i true) (fr c (upd vals i v)) w'' := by
      intro v w'' hR hΦi
      have hmono : ∀ j : Nat, listed[j]? = some true → (listed.setIfInBounds i true)[j]? = some true := by
        intro j hj
        rw [Array.getElem?_setIfInBounds]
        split
        · rename_i h
          subst h
          rw [if_pos (by omega)]
        · exact hj
      refine ⟨by simpa using hs, hCR _ _ hC hR, ⟨upd vals i v, rfl, fun j hj => ?_⟩, fun j o' hj ho'' => ?_⟩
      · unfold upd
        by_cases hji : j = i
        · subst hji
          rw [if_pos rfl]
          exact hΦi
        · rw [if_neg hji]
          rw [Array.getElem?_setIfInBounds_ne (Ne.symm hji)] at hj
          exact hΦ _ _ _ _ (hv j hj) hR
      · by_cases hji : j = i
        · subst hji
          rw [ho'] at ho''
          cases ho''
          exact ⟨fun k hk => hmono k (hbd' k hk), fun j' hj' => hmono j' (hDl j' hj')⟩
        · rw [Array.getElem?_setIfInBounds_ne (Ne.symm hji)] at hj
          obtain ⟨g1, g2⟩ := hcl j o' hj ho''
          exact ⟨fun k hk => hmono k (g1 k hk), fun j' hj' => hmono j' (g2 j' hj')⟩
    have hrun := hsh c hX vals w' hC (fun j hj => hv j (hDl j hj)) _ (fun v w'' hR hΦi => hfin' v w'' hR hΦi)
    unfold wpOp
    rw [ho]
    show if Region.wanted o (yielded l.toArray (fr c vals).tmps) = true then _ else _
    split
    · rename_i hw
      rw [if_pos hw] at hrun
      exact .inl hrun
    · rename_i hw
      rw [if_neg hw] at hrun
      exact hrun
  · show unlisted (Array.replicate l.toArray.size false) ≤ l.toArray.size
    unfold unlisted
    have := List.countP_le_length (p := (! ·)) (l := (Array.replicate l.toArray.size false).toList)
    simpa using this
  · refine ⟨by simp, hC0, ⟨vals0, rfl, fun i hi => ?_⟩, fun i o hi => ?_⟩
    · rw [Array.getElem?_replicate] at hi
      split at hi <;> cases hi
    · rw [Array.getElem?_replicate] at hi
      split at hi <;> cases hi

theorem tuple_undef : Value.tuple #[] = undef := rfl
/-- memory was added, nothing else -/
abbrev Adds (w w' : World) : Prop := Below w.heap.size w w'
theorem Adds.trans {a b c : World} (h : Adds a b) (k : Adds b c) : Adds a c := Below.trans h (k.mono h.size)
theorem Adds.refl (w : World) : Adds w w := Below.refl _ _
theorem Bytes.adds {w w' : World} {v : Value} {l : List UInt8} (h : Bytes w v l) (hb : Adds w w') : Bytes w' v l := h.below hb (Nat.le_refl _)

def StableAll : List (Value → World → Prop) → Prop
  | [] => True
  | Φ :: rest => (∀ x w w', Φ x w → Adds w w' → Φ x w') ∧ StableAll rest
theorem StableAll.get : ∀ (l : List (Value → World → Prop)), StableAll l → ∀ i x w w', l.getD i (fun _ _ => True) x w → Adds w w' → l.getD i (fun _ _ => True) x w'
  | [], _, i, x, w, w', _, _ => by simp
  | Φ :: rest, h, 0, x, w, w', hx, hb => h.1 x w w' hx hb
  | Φ :: rest, h, i + 1, x, w, w', hx, hb => StableAll.get rest h.2 i x w w' hx hb

theorem wp_region_adds {id : Nat} {l : List Oper} (fr : (Nat → Value) → (Nat → Value) → Act) (c vals0 : Nat → Value) {w : World} (hm : P.follows .mixedOrders = true)
    (D : List (List Nat)) (hD : aheadOk l D = true) (X : (Nat → Value) → Prop) (hX : X c)
    (Φs : List (Value → World → Prop)) (hΦ : StableAll Φs)
    (hshow : Shows P l.toArray Q fr X Adds (Adds w) Φs D 0 l)
    (hfin : ∀ vals w', Adds w w' → (∀ i, i < l.length → Φs.getD i (fun _ _ => True) (vals i) w') → Q .normal (fr c vals) w') : (Code.region id l.toArray true).wp P Q (fr c vals0) w :=
  wp_region_rel fr c vals0 hm D hD X hX Adds (Adds w) ((Adds.refl w).drew) (fun _ _ h k => h.trans k) Φs hΦ.get hshow hfin

theorem wpList_wanted {ops : Array Oper} {rest : List Oper} {o : Oper} {a : Act} {w : World} (hw : Region.wanted o (yielded ops a.tmps) = true) (h : o.wp P a w (wpList P ops Q rest) Q) : wpList P ops Q (o :: rest) a w := by
  unfold wpList
  rw [if_pos hw]
  exact .inl h

theorem wanted_of {ops : Array Oper} {tmps : Array Value} {o oj : Oper} {j : Nat} {want : Bool} {d : Nat} {x : Value} (hg : o.guard = some (j, want)) (hj : ops[j]? = some oj) (hd : oj.dst = some d) (hv : tmps[d]? = some x) (hx : x = .bool want) :
    Region.wanted o (yielded ops tmps) = true := by
  subst hx
  simp [Region.wanted, hg, yielded, hj, hd, hv]
theorem unwanted_of {ops : Array Oper} {tmps : Array Value} {o oj : Oper} {j : Nat} {want : Bool} {d : Nat} {x : Value} (hg : o.guard = some (j, want)) (hj : ops[j]? = some oj) (hd : oj.dst = some d) (hv : tmps[d]? = some x) (hx : x = .bool (!want)) :
    Region.wanted o (yielded ops tmps) = false := by
  subst hx
  simp [Region.wanted, hg, yielded, hj, hd, hv]
theorem wanted_none {y : Nat → Option Bool} {o : Oper} (hg : o.guard = none) : Region.wanted o y = true := by simp [Region.wanted, hg]
theorem ite_yes {b : Bool} {p q : Prop} (h : b = true) (x : p) : if b = true then p else q := by rw [if_pos h]; exact x
theorem ite_no {b : Bool} {p q : Prop} (h : b = false) (x : q) : if b = true then p else q := by rw [if_neg (by rw [h]; exact Bool.false_ne_true)]; exact x
theorem upd_of {vals : Nat → Value} {j : Nat} {x : Value} (h : vals j = x) : ∃ vals', vals = upd vals' j x :=
  ⟨vals, funext fun i => by
    unfold upd
    split
    · rename_i e; rw [e, h]
    · rfl⟩
end
end Go.PK
