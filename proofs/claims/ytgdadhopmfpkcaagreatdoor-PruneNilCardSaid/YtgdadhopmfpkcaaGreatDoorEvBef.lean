/- Which operations must lie ahead of which. -/
import Derived.Test.YtgdadhopmfpkcaaGreatDoorEvLed
import Derived.CheckFast
set_option linter.unusedVariables false
set_option linter.unusedSimpArgs false
namespace Go.Ev
open Go.CheckFast

theorem foldl_bits {b : Go.Edge → Bool} {look : Nat → Nat} : ∀ (l : List Go.Edge) (s m : Nat),
    (l.foldl (fun s e => if b e then s ||| 2 ^ e.on ||| look e.on else s) s).testBit m = true ↔
      s.testBit m = true ∨ ∃ e ∈ l, b e = true ∧ (e.on = m ∨ (look e.on).testBit m = true)
  | [], s, m => by simp
  | e :: l, s, m => by
    rw [List.foldl_cons, foldl_bits l]
    by_cases hb : b e = true
    · rw [if_pos hb, Nat.testBit_or, Nat.testBit_or, Nat.testBit_two_pow]
      constructor
      · rintro (h | ⟨e', h1, h2, h3⟩)
        · simp only [Bool.or_eq_true, decide_eq_true_eq] at h
          rcases h with (h | h) | h
          · exact .inl h
          · exact .inr ⟨e, by simp, hb, .inl h⟩
          · exact .inr ⟨e, by simp, hb, .inr h⟩
        · exact .inr ⟨e', by simp [h1], h2, h3⟩
      · rintro (h | ⟨e', h1, h2, h3⟩)
        · exact .inl (by simp [h])
        · rcases List.mem_cons.1 h1 with rfl | h1
          · rcases h3 with h3 | h3
            · exact .inl (by simp [h3])
            · exact .inl (by simp [h3])
          · exact .inr ⟨e', h1, h2, h3⟩
    · rw [if_neg hb]
      constructor
      · rintro (h | ⟨e', h1, h2, h3⟩)
        · exact .inl h
        · exact .inr ⟨e', by simp [h1], h2, h3⟩
      · rintro (h | ⟨e', h1, h2, h3⟩)
        · exact .inl h
        · rcases List.mem_cons.1 h1 with rfl | h1
          · exact absurd h2 hb
          · exact .inr ⟨e', h1, h2, h3⟩

theorem one_bits (look : Nat → Nat) (o : Oper) (m : Nat) : (one look o).testBit m = true ↔ ∃ e ∈ o.after, Region.binds .any e = true ∧ (e.on = m ∨ (look e.on).testBit m = true) := by
  unfold one
  rw [← Array.foldl_toList, foldl_bits]
  simp

/-- the numbers, laid one by one -/
theorem before_get : ∀ (l : List Oper) (A : Array Nat) (k : Nat) (o : Oper), l[k]? = some o →
    ∃ A' : Array Nat, A'.size = A.size + k ∧ (∀ i, i < A'.size → (l.foldl (fun acc o => acc.push (one (fun i => acc.getD i 0) o)) A)[i]? = A'[i]?) ∧
      (l.foldl (fun acc o => acc.push (one (fun i => acc.getD i 0) o)) A)[A.size + k]? = some (one (fun i => A'.getD i 0) o)
  | [], A, k, o, h => by simp at h
  | p :: l, A, k, o, h => by
    have old : ∀ (l : List Oper) (A : Array Nat) (i : Nat), i < A.size → (l.foldl (fun acc o => acc.push (one (fun i => acc.getD i 0) o)) A)[i]? = A[i]? := by
      intro l
      induction l with
      | nil => intro A i _; rfl
      | cons p l ih =>
        intro A i hi
        rw [List.foldl_cons, ih _ i (by simp; omega), Array.getElem?_push, if_neg (by omega)]
    rw [List.foldl_cons]
    cases k with
    | zero =>
      simp only [List.getElem?_cons_zero, Option.some.injEq] at h
      subst h
      refine ⟨A, rfl, fun i hi => ?_, ?_⟩
      · rw [old l _ i (by simp; omega), Array.getElem?_push, if_neg (by omega)]
      · rw [Nat.add_zero, old l _ A.size (by simp)]
        simp
    | succ k =>
      simp only [List.getElem?_cons_succ] at h
      obtain ⟨A', h1, h2, h3⟩ := before_get l (A.push (one (fun i => A.getD i 0) p)) k o h
      refine ⟨A', ?_, h2, ?_⟩
      · rw [h1, Array.size_push]; omega
      · rw [Array.size_push] at h3
        rw [← h3]
        congr 1
        omega

noncomputable def befOf (ops : Array Oper) (i : Nat) : Nat := (Region.before ops).getD i 0

theorem before_bits {ops : Array Oper} {k : Nat} {o : Oper} (h : ops[k]? = some o) (m : Nat) :
    (befOf ops k).testBit m = true ↔ ∃ e ∈ o.after, Region.binds .any e = true ∧ (e.on = m ∨ (e.on < k ∧ (befOf ops e.on).testBit m = true)) := by
  have hb : Region.before ops = ops.toList.foldl (fun acc o => acc.push (one (fun i => acc.getD i 0) o)) #[] := by
    unfold Region.before
    rw [← Array.foldl_toList]
    rfl
  obtain ⟨A', h1, h2, h3⟩ := before_get ops.toList #[] k o (by rw [Array.getElem?_toList]; exact h)
  rw [← hb] at h2 h3
  have hk : befOf ops k = one (fun i => A'.getD i 0) o := by
    unfold befOf
    rw [Array.getD_eq_getD_getElem?]
    have : (#[] : Array Nat).size + k = k := by simp
    rw [this] at h3
    rw [h3]; rfl
  have hs : A'.size = k := by rw [h1]; simp
  have hA : ∀ i, A'.getD i 0 = if i < k then befOf ops i else 0 := by
    intro i
    by_cases hi : i < k
    · rw [if_pos hi]
      unfold befOf
      rw [Array.getD_eq_getD_getElem?, Array.getD_eq_getD_getElem?, h2 i (by omega)]
    · rw [if_neg hi, Array.getD_eq_getD_getElem?, Array.getElem?_eq_none (by omega)]
      rfl
  rw [hk, one_bits]
  constructor
  · rintro ⟨e, h4, h5, h6⟩
    refine ⟨e, h4, h5, ?_⟩
    rcases h6 with h6 | h6
    · exact .inl h6
    · rw [hA] at h6
      by_cases hi : e.on < k
      · rw [if_pos hi] at h6; exact .inr ⟨hi, h6⟩
      · rw [if_neg hi] at h6; simp at h6
  · rintro ⟨e, h4, h5, h6⟩
    refine ⟨e, h4, h5, ?_⟩
    rcases h6 with h6 | ⟨h6, h7⟩
    · exact .inl h6
    · right; rw [hA, if_pos h6]; exact h7

/-- the names that an operation bears, and the order of their writers -/
structure RegFacts (ops : Array Oper) : Prop where
  small : ∀ k m, k < ops.size → (befOf ops k).testBit m = true → m < k
  names : ∀ i k o p d, ops[i]? = some o → ops[k]? = some p → i ≠ k → p.dst = some d → d ∈ namesOf ops o → (befOf ops i).testBit k = true ∨ (befOf ops k).testBit i = true

theorem regOk_spec {ops : Array Oper} (h : regOk ops = true) : RegFacts ops := by
  unfold regOk at h
  simp only [List.all_eq_true, Bool.and_eq_true] at h
  have mem : ∀ i o, ops[i]? = some o → (o, i) ∈ ops.toList.zipIdx := by
    intro i o hi
    rw [List.mem_iff_getElem?]
    exact ⟨i, by rw [List.getElem?_zipIdx, Array.getElem?_toList, hi]; simp⟩
  refine ⟨fun k m hk hb => ?_, fun i k o p d hi hk hne hd hm => ?_⟩
  · have h1 := (h (ops[k], k) (mem k _ (by simp [hk]))).1
    have h1 : befOf ops k < 2 ^ k := by rw [← Nat.blt_eq]; exact h1
    apply Nat.lt_of_not_le
    intro hle
    have := Nat.testBit_lt_two_pow (Nat.lt_of_lt_of_le h1 (Nat.pow_le_pow_right (by omega) hle))
    rw [hb] at this; cases this
  · have h1 := (h (o, i) (mem i o hi)).2 (p, k) (mem k p hk)
    have hc : (namesOf ops o).contains d = true := by simpa using hm
    simp only [hd, hc, Bool.not_true, Bool.or_false, Bool.or_eq_true] at h1
    rcases h1 with (h1 | h1) | h1
    · exact absurd (by simpa using h1) hne
    · exact .inl h1
    · exact .inr h1

end Go.Ev
