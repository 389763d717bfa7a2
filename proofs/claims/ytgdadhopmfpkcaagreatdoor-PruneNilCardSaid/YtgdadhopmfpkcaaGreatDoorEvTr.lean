/- Laws of the trees, and of lists kept in them. -/
import Derived.Test.YtgdadhopmfpkcaaGreatDoorEvDefs
set_option linter.unusedVariables false
set_option linter.unusedSimpArgs false
namespace Go.Ev

theorem brec_true {α : Sort _} (a b : α) : (Bool.rec a b true : α) = b := rfl
theorem brec_false {α : Sort _} (a b : α) : (Bool.rec a b false : α) = a := rfl
theorem brec_ite {α : Type _} (a b : α) (c : Bool) : (Bool.rec a b c : α) = if c = true then b else a := by cases c <;> rfl

@[simp] theorem Tr.get_lf {α : Type} (n : Nat) : (Tr.lf : Tr α).get n = none := rfl

theorem Tr.get_nd {α : Type} (l : Tr α) (v : Option α) (r : Tr α) (n : Nat) :
    (Tr.nd l v r).get n = if n = 0 then v else if n % 2 = 1 then l.get (n / 2) else r.get (n / 2 - 1) := by
  show (Bool.rec (Bool.rec (r.get (n / 2 - 1)) (l.get (n / 2)) (Nat.beq (n % 2) 1)) v (Nat.beq n 0) : Option α) = _
  rw [brec_ite, brec_ite]
  simp only [Nat.beq_eq]

theorem Tr.setF_lf {α : Type} (x : Option α) (f n : Nat) :
    Tr.setF x (f + 1) .lf n = if n = 0 then .nd .lf x .lf else if n % 2 = 1 then .nd (setF x f .lf (n / 2)) none .lf else .nd .lf none (setF x f .lf (n / 2 - 1)) := by
  show (Bool.rec (Bool.rec (.nd .lf none (setF x f .lf (n / 2 - 1))) (.nd (setF x f .lf (n / 2)) none .lf) (Nat.beq (n % 2) 1)) (.nd .lf x .lf) (Nat.beq n 0) : Tr α) = _
  rw [brec_ite, brec_ite]
  simp only [Nat.beq_eq]

theorem Tr.setF_nd {α : Type} (x : Option α) (f n : Nat) (l : Tr α) (v : Option α) (r : Tr α) :
    Tr.setF x (f + 1) (.nd l v r) n = if n = 0 then .nd l x r else if n % 2 = 1 then .nd (setF x f l (n / 2)) v r else .nd l v (setF x f r (n / 2 - 1)) := by
  show (Bool.rec (Bool.rec (.nd l v (setF x f r (n / 2 - 1))) (.nd (setF x f l (n / 2)) v r) (Nat.beq (n % 2) 1)) (.nd l x r) (Nat.beq n 0) : Tr α) = _
  rw [brec_ite, brec_ite]
  simp only [Nat.beq_eq]

theorem Tr.get_setF {α : Type} (x : Option α) : ∀ (f : Nat) (t : Tr α) (n m : Nat), n < f → (Tr.setF x f t n).get m = if m = n then x else t.get m := by
  intro f
  induction f with
  | zero => intro t n m h; omega
  | succ f ih =>
    intro t n m h
    cases t with
    | lf =>
      rw [Tr.setF_lf]
      by_cases h0 : n = 0
      · subst h0
        rw [if_pos rfl, Tr.get_nd]
        by_cases hm : m = 0
        · simp [hm]
        · simp [hm]
      · rw [if_neg h0]
        by_cases h1 : n % 2 = 1
        · rw [if_pos h1, Tr.get_nd]
          by_cases hm : m = 0
          · subst hm; simp; omega
          · rw [if_neg hm]
            by_cases hm1 : m % 2 = 1
            · rw [if_pos hm1, ih _ _ _ (by omega)]
              by_cases e : m = n
              · subst e; simp
              · rw [if_neg (by omega), if_neg e]; simp
            · rw [if_neg hm1, if_neg (by omega)]; simp
        · rw [if_neg h1, Tr.get_nd]
          by_cases hm : m = 0
          · subst hm; simp; omega
          · rw [if_neg hm]
            by_cases hm1 : m % 2 = 1
            · rw [if_pos hm1, if_neg (by omega)]; simp
            · rw [if_neg hm1, ih _ _ _ (by omega)]
              by_cases e : m = n
              · subst e; simp
              · rw [if_neg (by omega), if_neg e]; simp
    | nd l v r =>
      rw [Tr.setF_nd]
      by_cases h0 : n = 0
      · subst h0
        rw [if_pos rfl, Tr.get_nd, Tr.get_nd]
        by_cases hm : m = 0
        · simp [hm]
        · simp [hm]
      · rw [if_neg h0]
        by_cases h1 : n % 2 = 1
        · rw [if_pos h1, Tr.get_nd, Tr.get_nd]
          by_cases hm : m = 0
          · subst hm; rw [if_pos rfl, if_neg (by omega), if_pos rfl]
          · rw [if_neg hm, if_neg hm]
            by_cases hm1 : m % 2 = 1
            · rw [if_pos hm1, if_pos hm1, ih _ _ _ (by omega)]
              by_cases e : m = n
              · subst e; simp
              · rw [if_neg (by omega), if_neg e]
            · rw [if_neg hm1, if_neg hm1, if_neg (by omega)]
        · rw [if_neg h1, Tr.get_nd, Tr.get_nd]
          by_cases hm : m = 0
          · subst hm; rw [if_pos rfl, if_neg (by omega), if_pos rfl]
          · rw [if_neg hm, if_neg hm]
            by_cases hm1 : m % 2 = 1
            · rw [if_pos hm1, if_pos hm1, if_neg (by omega)]
            · rw [if_neg hm1, if_neg hm1, ih _ _ _ (by omega)]
              by_cases e : m = n
              · subst e; simp
              · rw [if_neg (by omega), if_neg e]

theorem Tr.get_set {α : Type} (t : Tr α) (n m : Nat) (x : Option α) : (t.set n x).get m = if m = n then x else t.get m :=
  Tr.get_setF x (n + 1) t n m (Nat.lt_succ_self n)

theorem hidden_nil (i : Nat) : hidden [] i = false := rfl

theorem hidden_cons (p : Nat × Nat) (l : Hid) (i : Nat) : hidden (p :: l) i = ((p.1 ≤ i ∧ i < p.2 : Bool) || hidden l i) := by
  show (Bool.rec (hidden l i) (Bool.rec true (hidden l i) (Nat.ble p.2 i)) (Nat.ble p.1 i) : Bool) = _
  rw [brec_ite, brec_ite]
  simp only [Nat.ble_eq]
  by_cases h1 : p.1 ≤ i
  · by_cases h2 : p.2 ≤ i
    · rw [if_pos h1, if_pos h2]; simp [h1, Nat.not_lt.2 h2]
    · rw [if_pos h1, if_neg h2]; simp [h1, Nat.lt_of_not_le h2]
  · rw [if_neg h1]; simp [h1]

theorem vis_eq (H : Hid) (s : St) (i : Nat) : St.vis H s i = if hidden H i = true then none else s.heap.get i := by
  show (Bool.rec (s.heap.get i) none (hidden H i) : Option AObj) = _
  rw [brec_ite]

/- lists in trees -/
theorem trOf_nil (i : Nat) (t : Tr Value) : trOf [] i t = t := rfl
theorem trOf_cons (v : Value) (l : List Value) (i : Nat) (t : Tr Value) : trOf (v :: l) i t = trOf l (i + 1) (t.set i (some v)) := rfl

theorem get_trOf : ∀ (l : List Value) (i : Nat) (t : Tr Value) (k : Nat),
    (trOf l i t).get k = if i ≤ k ∧ k < i + l.length then l[k - i]? else t.get k := by
  intro l
  induction l with
  | nil => intro i t k; rw [trOf_nil, if_neg (by simp)]
  | cons v l ih =>
    intro i t k
    rw [trOf_cons, ih, Tr.get_set]
    simp only [List.length_cons]
    by_cases h : k = i
    · subst h
      rw [if_neg (by omega), if_pos rfl, if_pos (by omega)]; simp
    · rw [if_neg h]
      by_cases h2 : i + 1 ≤ k ∧ k < i + 1 + l.length
      · rw [if_pos h2, if_pos (by omega)]
        obtain ⟨d, hd⟩ : ∃ d, k - i = d + 1 := ⟨k - i - 1, by omega⟩
        rw [hd, List.getElem?_cons_succ]
        congr 1; omega
      · rw [if_neg h2, if_neg (by omega)]

theorem ldN_zero (c : Tr Value) (o : Nat) (acc : List Value) : ldN c o 0 acc = some acc := rfl
theorem ldN_succ (c : Tr Value) (o n : Nat) (acc : List Value) : ldN c o (n + 1) acc = match c.get (o + n) with | some v => ldN c o n (v :: acc) | none => none := by
  show (Option.rec none (fun v => ldN c o n (v :: acc)) (c.get (o + n)) : Option (List Value)) = _
  cases c.get (o + n) <;> rfl

theorem ldN_spec : ∀ (n : Nat) (c : Tr Value) (o : Nat) (acc l : List Value), ldN c o n acc = some l →
    ∃ m, l = m ++ acc ∧ m.length = n ∧ ∀ k, k < n → c.get (o + k) = m[k]? := by
  intro n
  induction n with
  | zero => intro c o acc l h; rw [ldN_zero] at h; cases h; exact ⟨[], by simp, rfl, fun k hk => by omega⟩
  | succ n ih =>
    intro c o acc l h
    rw [ldN_succ] at h
    cases hg : c.get (o + n) with
    | none => rw [hg] at h; cases h
    | some v =>
      rw [hg] at h
      obtain ⟨m, hl, hm, hk⟩ := ih c o (v :: acc) l h
      refine ⟨m ++ [v], by simp [hl], by simp [hm], fun k hk' => ?_⟩
      by_cases e : k = n
      · subst e; rw [hg]; simp [← hm]
      · rw [hk k (by omega), List.getElem?_append_left (by omega)]

theorem stN_nil (o k : Nat) (c : Tr Value) : stN o [] k c = c := rfl
theorem stN_cons (o : Nat) (v : Value) (l : List Value) (k : Nat) (c : Tr Value) : stN o (v :: l) k c = stN o l (k + 1) (c.set (o + k) (some v)) := rfl

theorem get_stN (o : Nat) : ∀ (l : List Value) (k : Nat) (c : Tr Value) (i : Nat),
    (stN o l k c).get i = if o + k ≤ i ∧ i < o + k + l.length then l[i - (o + k)]? else c.get i := by
  intro l
  induction l with
  | nil => intro k c i; rw [stN_nil, if_neg (by simp)]
  | cons v l ih =>
    intro k c i
    rw [stN_cons, ih, Tr.get_set]
    simp only [List.length_cons]
    by_cases h : i = o + k
    · subst h
      rw [if_neg (by omega), if_pos rfl, if_pos (by omega)]; simp
    · rw [if_neg h]
      by_cases h2 : o + (k + 1) ≤ i ∧ i < o + (k + 1) + l.length
      · rw [if_pos h2, if_pos (by omega)]
        obtain ⟨d, hd⟩ : ∃ d, i - (o + k) = d + 1 := ⟨i - (o + k) - 1, by omega⟩
        rw [hd, List.getElem?_cons_succ]
        congr 1; omega
      · rw [if_neg h2, if_neg (by omega)]

end Go.Ev
