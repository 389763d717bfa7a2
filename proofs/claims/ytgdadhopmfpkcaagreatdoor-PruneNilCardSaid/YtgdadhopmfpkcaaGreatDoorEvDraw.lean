/- Regions that draw their order. -/
import Derived.Test.YtgdadhopmfpkcaaGreatDoorEvCong
set_option linter.unusedVariables false
set_option linter.unusedSimpArgs false
namespace Go.Ev
open Go.RowKit

variable {B0 : Base} {H : Hid} {s s' : St} {ρ : Ren} {G : Hp} {w : World} {nx : Nx}

/-- one operation's page in the book -/
def StepAt (T : Tab) (rec : Rec) (H : Hid) (ops : Array Oper) (b : Nat) (o : Oper) (k : Nat) (s s' : St) (tm tm' : Tr Value) (v : Value) (lg : List Nat) (hk : Hid) (rs rs' : List DRec) : Prop :=
  tm' = putT tm o.dst v ∧
  ((wantC (cOne T ops o b).guard tm = true ∧ ∃ f, (cOne T ops o b).run = .mk f ∧
      hk = seeOf o.op tm s.next ++ hideFor b rs H ∧ fin T hk (rec hk) (f hk tm ⟨s.heap, s.next, []⟩) = .ok v ⟨s'.heap, s'.next, lg⟩ ∧ s'.log = lg ++ s.log ∧
      rs' = ⟨k, b, s.next, s'.next, !pureOp o.op, hk, lg.filter (fun x => Nat.blt x s.next)⟩ :: rs) ∨
   (wantC (cOne T ops o b).guard tm = false ∧ v = undef ∧ s' = s ∧ rs' = rs))

theorem regD_trace {T : Tab} {rec : Rec} {ops : Array Oper} : ∀ (l : List Oper) (bs : List Nat) (i : Nat) (tm : Tr Value) (s : St) (rs : List DRec) (tm' : Tr Value) (s' : St),
    regD T rec H (cOps T ops l bs) i tm s rs = .ok tm' s' →
    ∃ (S : Nat → St) (TM : Nat → Tr Value) (V : Nat → Value) (RS : Nat → List DRec) (LG : Nat → List Nat) (HK : Nat → Hid), S 0 = s ∧ TM 0 = tm ∧ RS 0 = rs ∧ S l.length = s' ∧ TM l.length = tm' ∧ apartD (RS l.length) = true ∧
      ∀ k o, l[k]? = some o → StepAt T rec H ops (bs.getD k 0) o (i + k) (S k) (S (k + 1)) (TM k) (TM (k + 1)) (V k) (LG k) (HK k) (RS k) (RS (k + 1))
  | [], bs, i, tm, s, rs, tm', s', h => by
    have h : (if apartD rs = true then R.ok tm s else R.bad "order" : R (Tr Value)) = .ok tm' s' := by cases bs <;> exact h
    split at h
    · rename_i ha
      obtain ⟨rfl, rfl⟩ := ok_inj h
      exact ⟨fun _ => s, fun _ => tm, fun _ => undef, fun _ => rs, fun _ => [], fun _ => [], rfl, rfl, rfl, rfl, rfl, ha, fun k o hk => by simp at hk⟩
    · cases h
  | o :: l, bs, i, tm, s, rs, tm', s', h => by
    have hb : cOps T ops (o :: l) bs = cOne T ops o (bs.getD 0 0) :: cOps T ops l bs.tail := by cases bs <;> rfl
    rw [hb] at h
    have hget : ∀ k, bs.getD (k + 1) 0 = bs.tail.getD k 0 := by intro k; cases bs <;> rfl
    have glue : ∀ {tm1 : Tr Value} {s1 : St} {rs1 : List DRec} (v : Value) (lg : List Nat) (hk : Hid), regD T rec H (cOps T ops l bs.tail) (i + 1) tm1 s1 rs1 = .ok tm' s' →
        StepAt T rec H ops (bs.getD 0 0) o i s s1 tm tm1 v lg hk rs rs1 →
        ∃ (S : Nat → St) (TM : Nat → Tr Value) (V : Nat → Value) (RS : Nat → List DRec) (LG : Nat → List Nat) (HK : Nat → Hid), S 0 = s ∧ TM 0 = tm ∧ RS 0 = rs ∧ S (o :: l).length = s' ∧ TM (o :: l).length = tm' ∧ apartD (RS (o :: l).length) = true ∧
        ∀ k p, (o :: l)[k]? = some p → StepAt T rec H ops (bs.getD k 0) p (i + k) (S k) (S (k + 1)) (TM k) (TM (k + 1)) (V k) (LG k) (HK k) (RS k) (RS (k + 1)) := by
      intro tm1 s1 rs1 v lg hk h1 h2
      obtain ⟨S, TM, V, RS, LG, HK, a1, a2, a3, a4, a5, a6, a7⟩ := regD_trace l bs.tail (i + 1) tm1 s1 rs1 tm' s' h1
      refine ⟨fun k => Nat.casesOn k s S, fun k => Nat.casesOn k tm TM, fun k => Nat.casesOn k v V, fun k => Nat.casesOn k rs RS, fun k => Nat.casesOn k lg LG, fun k => Nat.casesOn k hk HK, rfl, rfl, rfl, a4, a5, a6, ?_⟩
      intro k p hk
      cases k with
      | zero =>
        simp only [List.getElem?_cons_zero, Option.some.injEq] at hk
        subst hk
        show StepAt T rec H ops (bs.getD 0 0) o (i + 0) s (S 0) tm (TM 0) v lg hk rs (RS 0)
        rw [a1, a2, a3, Nat.add_zero]
        exact h2
      | succ k =>
        simp only [List.getElem?_cons_succ] at hk
        have := a7 k p hk
        rw [← hget] at this
        rw [show i + (k + 1) = i + 1 + k by omega]
        exact this
    cases hrun : (cOne T ops o (bs.getD 0 0)).run with
    | mk f =>
      have hcone : cOne T ops o (bs.getD 0 0) = ⟨(cOne T ops o (bs.getD 0 0)).guard, o.dst, .mk f, bs.getD 0 0, pureOp o.op, .mk (seeOf o.op)⟩ := by rw [← hrun]; rfl
      rw [hcone] at h
      simp only [regD] at h
      split at h
      · rename_i hw
        split at h
        · rename_i v s1 h1
          exact glue v s1.log _ h ⟨rfl, .inl ⟨hw, f, hrun, rfl, h1, rfl, rfl⟩⟩
        · cases h
      · rename_i hw
        exact glue undef [] [] h ⟨rfl, .inr ⟨by simpa using hw, rfl, rfl, rfl⟩⟩

theorem hidden_for {bef : Nat} {x : Nat} : ∀ (rs : List DRec), hidden (hideFor bef rs H) x = true ↔ hidden H x = true ∨ ∃ r ∈ rs, r.lo ≤ x ∧ x < r.hi ∧ bef.testBit r.idx = false
  | [] => by simp [hideFor]
  | r :: rs => by
    simp only [hideFor]
    split
    · rename_i hc
      simp only [Bool.and_eq_true, Nat.blt_eq, Bool.not_eq_true'] at hc
      rw [hidden_cons, Bool.or_eq_true, hidden_for rs]
      simp only [decide_eq_true_eq, List.mem_cons, exists_eq_or_imp]
      constructor
      · rintro (h | h | h)
        · exact .inr (.inl ⟨h.1, h.2, hc.2⟩)
        · exact .inl h
        · exact .inr (.inr h)
      · rintro (h | h | h)
        · exact .inr (.inl h)
        · exact .inl ⟨h.1, h.2.1⟩
        · exact .inr (.inr h)
    · rename_i hc
      rw [hidden_for rs]
      simp only [List.mem_cons, exists_eq_or_imp]
      constructor
      · rintro (h | h)
        · exact .inl h
        · exact .inr (.inr h)
      · rintro (h | h | h)
        · exact .inl h
        · refine absurd ?_ hc
          simp only [Bool.and_eq_true, Nat.blt_eq, Bool.not_eq_true']
          exact ⟨by omega, h.2.2⟩
        · exact .inr h

theorem hidden_append (x : Nat) : ∀ (a b : Hid), hidden (a ++ b) x = (hidden a x || hidden b x)
  | [], b => by rw [hidden_nil]; rfl
  | p :: a, b => by rw [List.cons_append, hidden_cons, hidden_cons, hidden_append x a b, Bool.or_assoc]

theorem leR_of {T : Tab} {ops : Array Oper} {o : Oper} {b : Nat} {f : OpF} (hrun : (cOne T ops o b).run = .mk f) (H : Hid) (tm : Tr Value) (s : St) : leR H s (f H tm s) := by
  rcases run_of_cOne hrun with h3 | ⟨h3, _⟩
  · rw [h3]; exact le_bad
  · exact le_cOp h3 H tm s

/-- the book of a region's run -/
theorem led_of {T : Tab} {rec : Rec} (hSum : SumOk T) (hM : MonoRec rec) {ops : Array Oper} (hf : RegFacts ops) {S : Nat → St} {TM : Nat → Tr Value} {V : Nat → Value} {RS : Nat → List DRec} {LG : Nat → List Nat} {HK : Nat → Hid}
    (hRS : RS 0 = []) (hap : apartD (RS ops.size) = true) (hwf : ∀ x, (S 0).next ≤ x → (S 0).heap.get x = none)
    (hst : ∀ k o, ops[k]? = some o → StepAt T rec H ops (befOf ops k) o k (S k) (S (k + 1)) (TM k) (TM (k + 1)) (V k) (LG k) (HK k) (RS k) (RS (k + 1)))
    {ran tch : Nat → Bool} (hran : ∀ k o, ops[k]? = some o → ran k = wantC (cOne T ops o (befOf ops k)).guard (TM k)) (htch : ∀ k o, ops[k]? = some o → tch k = !pureOp o.op) :
    Led H ops.size (befOf ops) ran tch S LG HK := by
  have hop : ∀ k, k < ops.size → ∃ o, ops[k]? = some o := fun k hk => ⟨ops[k], by simp [hk]⟩
  have hmem : ∀ k, k ≤ ops.size → ∀ r, r ∈ RS k ↔ ∃ m, m < k ∧ ran m = true ∧ r = ⟨m, befOf ops m, (S m).next, (S (m + 1)).next, tch m, HK m, (LG m).filter (fun x => Nat.blt x (S m).next)⟩ := by
    intro k
    induction k with
    | zero => intro _ r; rw [hRS]; simp
    | succ k ih =>
      intro hk r
      obtain ⟨o, ho⟩ := hop k (by omega)
      obtain ⟨_, h | h⟩ := hst k o ho
      · obtain ⟨h1, f, _, _, _, _, h2⟩ := h
        rw [h2, List.mem_cons, ih (by omega)]
        constructor
        · rintro (rfl | ⟨m, h3, h4⟩)
          · exact ⟨k, by omega, by rw [hran k o ho]; exact h1, by rw [htch k o ho]⟩
          · exact ⟨m, by omega, h4⟩
        · rintro ⟨m, h3, h4, h5⟩
          by_cases e : m = k
          · subst e; left; rw [h5, htch m o ho]
          · exact .inr ⟨m, by omega, h4, h5⟩
      · obtain ⟨h1, _, _, h2⟩ := h
        rw [h2, ih (by omega)]
        constructor
        · rintro ⟨m, h3, h4⟩
          exact ⟨m, by omega, h4⟩
        · rintro ⟨m, h3, h4, h5⟩
          by_cases e : m = k
          · subst e; rw [hran m o ho, h1] at h4; cases h4
          · exact ⟨m, by omega, h4, h5⟩
  refine ⟨fun k hk hr => ?_, fun k hk hr => ?_, fun k hk hr => ?_, fun k hk hr x hx => ?_, ?_, fun k hk hr ht => ?_, hf.small, hwf⟩
  · obtain ⟨o, ho⟩ := hop k hk
    obtain ⟨_, h | h⟩ := hst k o ho
    · obtain ⟨h1, f, h2, _, h3, _⟩ := h
      exact (mono_fin hSum hM (leR_of h2 _ _ _) h3).1
    · rw [hran k o ho, h.1] at hr; cases hr
  · obtain ⟨o, ho⟩ := hop k hk
    obtain ⟨_, h | h⟩ := hst k o ho
    · obtain ⟨_, _, _, _, _, h4, _⟩ := h; exact h4
    · rw [hran k o ho, h.1] at hr; cases hr
  · obtain ⟨o, ho⟩ := hop k hk
    obtain ⟨_, h | h⟩ := hst k o ho
    · rw [hran k o ho, h.1] at hr; cases hr
    · exact h.2.2.1
  · obtain ⟨o, ho⟩ := hop k hk
    obtain ⟨_, h | h⟩ := hst k o ho
    · obtain ⟨_, _, _, h2, _⟩ := h
      rw [h2, hidden_append, Bool.or_eq_true]
      right
      rw [hidden_for]
      rcases hx with h | ⟨m, h1, h2, h3, h4, h5⟩
      · exact .inl h
      · exact .inr ⟨_, (hmem k (by omega) _).2 ⟨m, h1, h2, rfl⟩, h3, h4, h5⟩
    · rw [hran k o ho, h.1] at hr; cases hr
  · intro i k hi hk hri hrk htk hne x hx hlt
    unfold apartD at hap
    rw [List.all_eq_true] at hap
    have h1 := hap _ ((hmem ops.size (Nat.le_refl _) _).2 ⟨i, hi, hri, rfl⟩)
    have hin : x ∈ (LG i).filter (fun x => Nat.blt x (S i).next) := by rw [List.mem_filter]; exact ⟨hx, by rw [Nat.blt_eq]; exact hlt⟩
    rw [Bool.or_eq_true] at h1
    rcases h1 with h1 | h1
    · simp only [List.isEmpty_iff] at h1
      rw [h1] at hin; cases hin
    · rw [List.all_eq_true] at h1
      have h2 := h1 _ ((hmem ops.size (Nat.le_refl _) _).2 ⟨k, hk, hrk, rfl⟩)
      simp only [htk, Bool.not_true, Bool.false_or, Bool.or_eq_true] at h2
      rcases h2 with ((h2 | h2) | h2) | h2
      · rw [Nat.beq_eq] at h2; exact absurd h2 hne
      · exact .inl h2
      · exact .inr (.inl h2)
      · rw [List.all_eq_true] at h2
        have h3 := h2 x hin
        unfold unseen at h3
        simp only [Bool.or_eq_true, Nat.ble_eq] at h3
        exact .inr (.inr h3)
  · obtain ⟨o, ho⟩ := hop k hk
    obtain ⟨_, h | h⟩ := hst k o ho
    · obtain ⟨h1, f, h2, _, h3, _⟩ := h
      rw [htch k o ho] at ht
      have hp : pureOp o.op = true := by simpa using ht
      rcases run_of_cOne h2 with h4 | ⟨h4, _⟩
      · rw [h4] at h3; cases h3
      · obtain ⟨r, hr'⟩ := pure_cOp hp h4 (TM k)
        rw [hr'] at h3
        cases r with
        | bad w => cases h3
        | ok n u =>
          cases n with
          | val v =>
            have h3 : (R.ok v (⟨(S k).heap, (S k).next, []⟩ : St) : R Value) = _ := h3
            obtain ⟨_, h5⟩ := ok_inj h3
            have h6 := congrArg St.heap h5
            have h7 := congrArg St.next h5
            exact ⟨h6.symm, h7.symm⟩
          | enter f args => cases h3
          | round l f tm as bd => cases h3
    · rw [hran k o ho, h.1] at hr; cases hr

end Go.Ev
