/- A book of what the operations of a region did to the heap, and what it says of another order. -/
import Derived.Test.YtgdadhopmfpkcaaGreatDoorEvRun2
set_option linter.unusedVariables false
set_option linter.unusedSimpArgs false
namespace Go.Ev

variable {H : Hid} {n : Nat} {bef : Nat → Nat} {ran tch : Nat → Bool} {S : Nat → St} {LG : Nat → List Nat} {Hk : Nat → Hid} {G0 : Hp}

structure Led (H : Hid) (n : Nat) (bef : Nat → Nat) (ran tch : Nat → Bool) (S : Nat → St) (LG : Nat → List Nat) (Hk : Nat → Hid) : Prop where
  fr : ∀ k, k < n → ran k = true → Fr (Hk k) ⟨(S k).heap, (S k).next, []⟩ ⟨(S (k + 1)).heap, (S (k + 1)).next, LG k⟩
  log : ∀ k, k < n → ran k = true → (S (k + 1)).log = LG k ++ (S k).log
  idle : ∀ k, k < n → ran k = false → S (k + 1) = S k
  hid : ∀ k, k < n → ran k = true → ∀ x, (hidden H x = true ∨ ∃ m, m < k ∧ ran m = true ∧ (S m).next ≤ x ∧ x < (S (m + 1)).next ∧ (bef k).testBit m = false) → hidden (Hk k) x = true
  apart : ∀ i k, i < n → k < n → ran i = true → ran k = true → tch k = true → i ≠ k → ∀ x ∈ LG i, x < (S i).next → (bef i).testBit k = true ∨ (bef k).testBit i = true ∨
    (S k).next ≤ x ∨ hidden (Hk k) x = true
  still : ∀ k, k < n → ran k = true → tch k = false → (S (k + 1)).heap = (S k).heap ∧ (S (k + 1)).next = (S k).next
  small : ∀ k m, k < n → (bef k).testBit m = true → m < k
  wf : ∀ x, (S 0).next ≤ x → (S 0).heap.get x = none

theorem Led.frH (L : Led H n bef ran tch S LG Hk) (k : Nat) (hk : k < n) : Fr H (S k) (S (k + 1)) := by
  cases hr : ran k with
  | false => rw [L.idle k hk hr]; exact .refl _ _
  | true =>
    have f := L.fr k hk hr
    have hvis : ∀ x, St.vis H (S k) x = none → St.vis (Hk k) ⟨(S k).heap, (S k).next, []⟩ x = none := by
      intro x hx
      rw [vis_none_iff] at hx ⊢
      rcases hx with hx | hx
      · exact .inl (L.hid k hk hr x (.inl hx))
      · exact .inr hx
    refine ⟨f.next, fun x hx hn => f.out x (hvis x hx) hn, fun x hx hne => ?_, fun x hx => ?_, f.dom⟩
    · rw [L.log k hk hr]; exact List.mem_append_left _ (f.log x hx hne)
    · rw [L.log k hk hr]; exact List.mem_append_right _ hx

theorem Led.frTo (L : Led H n bef ran tch S LG Hk) : ∀ k, k ≤ n → Fr H (S 0) (S k)
  | 0, _ => .refl _ _
  | k + 1, h => (L.frTo k (by omega)).trans (L.frH k (by omega))

theorem Led.frBetween (L : Led H n bef ran tch S LG Hk) (j : Nat) : ∀ k, j ≤ k → k ≤ n → Fr H (S j) (S k)
  | 0, h, _ => by have : j = 0 := by omega
                  subst this; exact .refl _ _
  | k + 1, h, hn => by
    by_cases e : j = k + 1
    · subst e; exact .refl _ _
    · exact (L.frBetween j k (by omega) (by omega)).trans (L.frH k (by omega))

theorem Led.le (L : Led H n bef ran tch S LG Hk) {j k : Nat} (h : j ≤ k) (hn : k ≤ n) : (S j).next ≤ (S k).next := (L.frBetween j k h hn).next

theorem Led.wfk (L : Led H n bef ran tch S LG Hk) (k : Nat) (h : k ≤ n) : ∀ x, (S k).next ≤ x → (S k).heap.get x = none := (L.frTo k h).dom L.wf

def Own (S : Nat → St) (k x : Nat) : Prop := (S k).next ≤ x ∧ x < (S (k + 1)).next

/-- operation k turned block x -/
def Chg (ran : Nat → Bool) (S : Nat → St) (k x : Nat) : Prop := ran k = true ∧ (Own S k x ∨ (S (k + 1)).heap.get x ≠ (S k).heap.get x)

theorem Led.keep (L : Led H n bef ran tch S LG Hk) {k x : Nat} (hk : k < n) (h : ¬ Chg ran S k x) : (S (k + 1)).heap.get x = (S k).heap.get x := by
  cases hr : ran k with
  | false => rw [L.idle k hk hr]
  | true =>
    by_cases e : (S (k + 1)).heap.get x = (S k).heap.get x
    · exact e
    · exact absurd ⟨hr, .inr e⟩ h

theorem Led.tch_of (L : Led H n bef ran tch S LG Hk) {k x : Nat} (hk : k < n) (h : Chg ran S k x) : tch k = true := by
  cases ht : tch k with
  | true => rfl
  | false =>
    obtain ⟨h1, h2⟩ := L.still k hk h.1 ht
    rcases h.2 with h3 | h3
    · unfold Own at h3; omega
    · exact absurd (by rw [h1]) h3

/-- a turned block that is not the operation's own: it could see it, and told of it -/
theorem Led.told (L : Led H n bef ran tch S LG Hk) {k x : Nat} (hk : k < n) (h : Chg ran S k x) (ho : ¬ Own S k x) :
    hidden (Hk k) x = false ∧ x < (S k).next ∧ x ∈ LG k := by
  have hne : (S (k + 1)).heap.get x ≠ (S k).heap.get x := h.2.resolve_left ho
  have f := L.fr k hk h.1
  have hv : ¬ St.vis (Hk k) ⟨(S k).heap, (S k).next, []⟩ x = none := fun e => hne (f.out x e ho)
  rw [vis_none_iff, not_or] at hv
  have hlt : x < (S k).next := by
    apply Nat.lt_of_not_le
    intro hle
    exact hv.2 (L.wfk k (by omega) x hle)
  exact ⟨by simpa using hv.1, hlt, f.log x hlt hne⟩

/-- nothing that operation i made, or could have turned, is turned by a later one that ran ahead of it -/
theorem Led.later (L : Led H n bef ran tch S LG Hk) {E : Nat → Bool} (hE : ∀ k m, k < n → E k = true → (bef k).testBit m = true → E m = true)
    {i k x : Nat} (hi : i < n) (hk : k < n) (hik : i < k) (hEi : E i = false) (hEk : E k = true) (hci : Chg ran S i x) : ¬ Chg ran S k x := by
  intro hck
  have hnot : (bef k).testBit i = false := by
    cases hb : (bef k).testBit i with
    | false => rfl
    | true => have := hE k i hk hEk hb; rw [hEi] at this; cases this
  have hnot2 : (bef i).testBit k = false := by
    cases hb : (bef i).testBit k with
    | false => rfl
    | true => have := L.small i k hi hb; omega
  have h1 := L.le (show i + 1 ≤ k by omega) (by omega)
  by_cases hok : Own S k x
  · unfold Own at hok
    by_cases hoi : Own S i x
    · unfold Own at hoi; omega
    · have := (L.told hi hci hoi).2.1
      have := L.le (show i ≤ k by omega) (by omega)
      omega
  · obtain ⟨a1, a2, a3⟩ := L.told hk hck hok
    have hh : ∀ m, m < k → ran m = true → Own S m x → (bef k).testBit m = false → False := by
      intro m hm hr ho hb
      have := L.hid k hk hck.1 x (.inr ⟨m, hm, hr, ho.1, ho.2, hb⟩)
      rw [a1] at this; cases this
    by_cases hoi : Own S i x
    · exact hh i hik hci.1 hoi hnot
    · obtain ⟨b1, b2, b3⟩ := L.told hi hci hoi
      rcases L.apart i k hi hk hci.1 hck.1 (L.tch_of hk hck) (by omega) x b3 b2 with h | h | h | h
      · rw [hnot2] at h; cases h
      · rw [hnot] at h; cases h
      · omega
      · rw [a1] at h; cases h

open Classical in
/-- the heap behind the operations of E -/
noncomputable def GE (ran : Nat → Bool) (S : Nat → St) (G0 : Hp) (E : Nat → Bool) : Nat → Hp
  | 0 => G0
  | k + 1 => fun x => if E k = true ∧ Chg ran S k x then (S (k + 1)).heap.get x else GE ran S G0 E k x

theorem GE_pos {E : Nat → Bool} {k x : Nat} (h : E k = true ∧ Chg ran S k x) : GE ran S G0 E (k + 1) x = (S (k + 1)).heap.get x := by
  simp only [GE, h, and_self, if_true]

theorem GE_neg {E : Nat → Bool} {k x : Nat} (h : ¬ (E k = true ∧ Chg ran S k x)) : GE ran S G0 E (k + 1) x = GE ran S G0 E k x := by
  simp only [GE, h, if_false]

theorem GE_stay {E : Nat → Bool} {x i : Nat} : ∀ m, i ≤ m → (∀ k, i ≤ k → k < m → E k = true → ¬ Chg ran S k x) → GE ran S G0 E m x = GE ran S G0 E i x
  | 0, h, _ => by have : i = 0 := by omega
                  rw [this]
  | m + 1, h, hk => by
    by_cases e : i = m + 1
    · rw [e]
    · have : ¬ (E m = true ∧ Chg ran S m x) := fun c => hk m (by omega) (by omega) c.1 c.2
      rw [GE_neg this]
      exact GE_stay m (by omega) fun k h1 h2 => hk k h1 (by omega)

theorem Led.GE_val (L : Led H n bef ran tch S LG Hk) {E : Nat → Bool} {x : Nat} : ∀ i, i ≤ n → (∀ k, k < i → Chg ran S k x → E k = true) →
    GE ran S G0 E i x = (S i).heap.get x ∨ (GE ran S G0 E i x = G0 x ∧ (S i).heap.get x = (S 0).heap.get x ∧ ∀ k, k < i → ¬ Chg ran S k x)
  | 0, _, _ => .inr ⟨rfl, rfl, fun k h => by omega⟩
  | i + 1, hi, h => by
    by_cases c : E i = true ∧ Chg ran S i x
    · left
      exact GE_pos c
    · have hn : ¬ Chg ran S i x := fun hc => c ⟨h i (by omega) hc, hc⟩
      have e1 : GE ran S G0 E (i + 1) x = GE ran S G0 E i x := GE_neg c
      rw [e1, L.keep (by omega) hn]
      rcases L.GE_val i (by omega) (fun k hk => h k (by omega)) with h1 | ⟨h1, h2, h3⟩
      · exact .inl h1
      · refine .inr ⟨h1, h2, fun k hk => ?_⟩
        by_cases e : k = i
        · subst e; exact hn
        · exact h3 k (by omega)

/-- what operation i sees lies in the heap behind any operations among which are those that must lie ahead of it -/
theorem Led.sees (L : Led H n bef ran tch S LG Hk) (hG : Sub H (S 0) G0) {E : Nat → Bool} (hE : ∀ k m, k < n → E k = true → (bef k).testBit m = true → E m = true)
    {i : Nat} (hi : i < n) (hEi : E i = false) (hb : ∀ m, (bef i).testBit m = true → E m = true) (hr : ran i = true) (ht : tch i = true) :
    Sub (Hk i) ⟨(S i).heap, (S i).next, []⟩ (GE ran S G0 E n) := by
  intro x o hx
  obtain ⟨h1, h2⟩ := vis_some_iff.1 hx
  have h2 : (S i).heap.get x = some o := h2
  have hlt : x < (S i).next := by
    apply Nat.lt_of_not_le
    intro hle
    rw [L.wfk i (by omega) x hle] at h2; cases h2
  have hH : hidden H x = false := by
    cases hh : hidden H x with
    | false => rfl
    | true => rw [L.hid i hi hr x (.inl hh)] at h1; cases h1
  have hseen : ∀ m, m < n → ran m = true → Own S m x → (bef i).testBit m = true := by
    intro m hm hrm ho
    have hmi : m < i := by
      apply Nat.lt_of_not_le
      intro hle
      have := L.le hle (by omega)
      unfold Own at ho; omega
    cases hbm : (bef i).testBit m with
    | true => rfl
    | false => rw [L.hid i hi hr x (.inr ⟨m, hmi, hrm, ho.1, ho.2, hbm⟩)] at h1; cases h1
  have early : ∀ k, k < i → Chg ran S k x → E k = true := by
    intro k hk hc
    by_cases ho : Own S k x
    · exact hb k (hseen k (by omega) hc.1 ho)
    · obtain ⟨a1, a2, a3⟩ := L.told (by omega) hc ho
      rcases L.apart k i (by omega) hi hc.1 hr ht (by omega) x a3 a2 with h | h | h | h
      · have := L.small k i (by omega) h; omega
      · exact hb k h
      · omega
      · rw [h1] at h; cases h
  have late : ∀ k, i ≤ k → k < n → E k = true → ¬ Chg ran S k x := by
    intro k hk hkn hEk hc
    by_cases e : k = i
    · rw [e, hEi] at hEk; cases hEk
    · by_cases ho : Own S k x
      · have := L.le hk (by omega)
        unfold Own at ho; omega
      · obtain ⟨a1, a2, a3⟩ := L.told hkn hc ho
        rcases L.apart k i hkn hi hc.1 hr ht (by omega) x a3 a2 with h | h | h | h
        · have := hE k i hkn hEk h; rw [hEi] at this; cases this
        · have := L.small i k hi h; omega
        · omega
        · rw [h1] at h; cases h
  rw [GE_stay n (by omega) late]
  rcases L.GE_val i (by omega) early with h | ⟨h, h3, _⟩
  · rw [h]; exact h2
  · rw [h]
    exact hG x o (vis_some_iff.2 ⟨hH, by rw [← h3]; exact h2⟩)

theorem GE_skip {E E' : Nat → Bool} {i x : Nat} (hE' : ∀ k, E' k = if k = i then true else E k) (hc : ¬ Chg ran S i x) : ∀ m, GE ran S G0 E' m x = GE ran S G0 E m x
  | 0 => rfl
  | m + 1 => by
    have e : (E' m = true ∧ Chg ran S m x) ↔ (E m = true ∧ Chg ran S m x) := by
      rw [hE']
      by_cases e : m = i
      · subst e; simp [hc]
      · rw [if_neg e]
    by_cases c : E m = true ∧ Chg ran S m x
    · rw [GE_pos c, GE_pos (e.2 c)]
    · rw [GE_neg c, GE_neg (fun k => c (e.1 k)), GE_skip hE' hc m]

/-- the heap behind one operation more -/
theorem Led.more (L : Led H n bef ran tch S LG Hk) {E E' : Nat → Bool} (hE : ∀ k m, k < n → E k = true → (bef k).testBit m = true → E m = true)
    {i : Nat} (hi : i < n) (hEi : E i = false) (hr : ran i = true) (hE' : ∀ k, E' k = if k = i then true else E k)
    (hs : Sub (Hk i) ⟨(S i).heap, (S i).next, []⟩ (GE ran S G0 E n)) :
    upd (GE ran S G0 E n) (Hk i) ⟨(S i).heap, (S i).next, []⟩ ⟨(S (i + 1)).heap, (S (i + 1)).next, LG i⟩ = GE ran S G0 E' n := by
  funext x
  have f := L.fr i hi hr
  unfold upd
  by_cases hc : Chg ran S i x
  · have e1 : GE ran S G0 E' n x = (S (i + 1)).heap.get x := by
      rw [GE_stay (i := i + 1) n (by omega)]
      · exact GE_pos ⟨by rw [hE']; simp, hc⟩
      · intro k h1 h2 h3
        rw [hE', if_neg (by omega)] at h3
        exact L.later hE hi h2 (by omega) hEi h3 hc
    rw [e1]
    by_cases ho : Own S i x
    · exact if_pos ho
    · refine (if_neg ho).trans ?_
      split
      · rename_i hv
        exact absurd (f.out x hv ho) (hc.2.resolve_left ho)
      · rfl
  · rw [GE_skip hE' hc]
    have ho : ¬ Own S i x := fun h => hc ⟨hr, .inl h⟩
    refine (if_neg ho).trans ?_
    split
    · rfl
    · rename_i hv
      cases hh : St.vis (Hk i) ⟨(S i).heap, (S i).next, []⟩ x with
      | none => exact absurd hh hv
      | some o =>
        rw [hs x o hh]
        show (S (i + 1)).heap.get x = some o
        rw [L.keep hi hc]
        exact (vis_some_iff.1 hh).2

theorem GE_quiet (L : Led H n bef ran tch S LG Hk) {E E' : Nat → Bool} {i : Nat} (hi : i < n) (hE' : ∀ k, E' k = if k = i then true else E k) (h : ran i = false ∨ tch i = false) :
    GE ran S G0 E' n = GE ran S G0 E n := by
  funext x
  refine GE_skip hE' (fun hc => ?_) n
  rcases h with h | h
  · rw [hc.1] at h; cases h
  · rw [L.tch_of hi hc] at h; cases h

theorem Led.owner (L : Led H n bef ran tch S LG Hk) {x : Nat} (h0 : (S 0).next ≤ x) : ∀ m, m ≤ n → x < (S m).next → ∃ k, k < m ∧ Own S k x
  | 0, _, h => by omega
  | m + 1, hm, h => by
    by_cases e : x < (S m).next
    · obtain ⟨k, h1, h2⟩ := L.owner h0 m (by omega) e
      exact ⟨k, by omega, h2⟩
    · exact ⟨m, by omega, by omega, h⟩

theorem Led.own_ran (L : Led H n bef ran tch S LG Hk) {k x : Nat} (hk : k < n) (h : Own S k x) : ran k = true := by
  cases hr : ran k with
  | true => rfl
  | false => unfold Own at h; rw [L.idle k hk hr] at h; omega

/-- the heap behind all -/
theorem Led.whole (L : Led H n bef ran tch S LG Hk) (hG : Sub H (S 0) G0) {E : Nat → Bool} (hE : ∀ k, k < n → E k = true) : GE ran S G0 E n = upd G0 H (S 0) (S n) := by
  funext x
  unfold upd
  have hall : ∀ k, k < n → Chg ran S k x → E k = true := fun k hk _ => hE k hk
  by_cases hin : (S 0).next ≤ x ∧ x < (S n).next
  · rw [if_pos hin]
    rcases L.GE_val n (Nat.le_refl _) hall with h | ⟨h, h2, h3⟩
    · exact h
    · obtain ⟨k, hk, ho⟩ := L.owner hin.1 n (Nat.le_refl _) hin.2
      exact absurd ⟨L.own_ran hk ho, .inl ho⟩ (h3 k hk)
  · rw [if_neg hin]
    by_cases hv : St.vis H (S 0) x = none
    · rw [if_pos hv]
      have hno : ∀ k, 0 ≤ k → k < n → E k = true → ¬ Chg ran S k x := by
        intro k _ hk _ hc
        have f := L.frTo k (by omega)
        have hlek := L.le (show k ≤ n by omega) (Nat.le_refl _)
        have hlek1 := L.le (show k + 1 ≤ n by omega) (Nat.le_refl _)
        have hno : ¬ Own S k x := fun ho => hin ⟨Nat.le_trans f.next ho.1, Nat.lt_of_lt_of_le ho.2 hlek1⟩
        obtain ⟨a1, a2, a3⟩ := L.told hk hc hno
        have hvk := f.vis_none hv (fun e => hin ⟨e.1, by omega⟩)
        rw [vis_none_iff] at hvk
        have hne := hc.2.resolve_left hno
        rcases hvk with hh | hh
        · rw [L.hid k hk hc.1 x (.inl hh)] at a1; cases a1
        · exact hne ((L.fr k hk hc.1).out x (vis_none_iff.2 (.inr hh)) hno)
      exact GE_stay n (Nat.zero_le _) hno
    · rw [if_neg hv]
      rcases L.GE_val n (Nat.le_refl _) hall with h | ⟨h, h2, h3⟩
      · exact h
      · rw [h]
        cases hh : St.vis H (S 0) x with
        | none => exact absurd hh hv
        | some o => rw [hG x o hh, h2]; exact (vis_some_iff.1 hh).2.symm

end Go.Ev
