/- Regions that draw their order: any order comes to the same. -/
import Derived.Test.YtgdadhopmfpkcaaGreatDoorEvDraw
set_option linter.unusedVariables false
set_option linter.unusedSimpArgs false
namespace Go.Ev
open Go.RowKit

variable {B0 : Base} {H : Hid} {s s' : St} {ρ : Ren} {G : Hp} {w : World} {nx : Nx}

theorem mono_regD {T : Tab} {rec : Rec} (hSum : SumOk T) (hM : MonoRec rec) {ops : Array Oper} {tm : Tr Value} {tm' : Tr Value}
    (h : regD T rec H (cOps T ops ops.toList (Region.before ops).toList) 0 tm s [] = .ok tm' s') : Fr H s s' := by
  obtain ⟨S, TM, V, RS, LG, HK, a1, a2, a3, a4, a5, a6, a7⟩ := regD_trace _ _ _ _ _ _ _ _ h
  have step : ∀ k, k < ops.toList.length → Fr H (S k) (S (k + 1)) := by
    intro k hk
    have ho : ops.toList[k]? = some ops.toList[k] := List.getElem?_eq_getElem hk
    obtain ⟨_, h | h⟩ := a7 k _ ho
    · obtain ⟨h1, f, h2, hk2, h3, h4, _⟩ := h
      have fr := (mono_fin hSum hM (leR_of h2 _ _ _) h3).1
      refine ⟨fr.next, fun x hx hn => fr.out x ?_ hn, fun x hx hne => ?_, fun x hx => ?_, fr.dom⟩
      · rw [vis_none_iff] at hx ⊢
        rcases hx with hx | hx
        · exact .inl (by rw [hk2, hidden_append, Bool.or_eq_true]; exact .inr ((hidden_for _).2 (.inl hx)))
        · exact .inr hx
      · rw [h4]; exact List.mem_append_left _ (fr.log x hx hne)
      · rw [h4]; exact List.mem_append_right _ hx
    · rw [h.2.2.1]; exact .refl _ _
  have all : ∀ k, k ≤ ops.toList.length → Fr H (S 0) (S k) := by
    intro k
    induction k with
    | zero => intro _; exact .refl _ _
    | succ k ih => intro hk; exact (ih (by omega)).trans (step k (by omega))
  have := all _ (Nat.le_refl _)
  rw [a1, a4] at this
  exact this

/-- the names behind the operations of E -/
noncomputable def tmE (ops : Array Oper) (V : Nat → Value) (tm : Tr Value) (E : Nat → Bool) : Nat → Tr Value
  | 0 => tm
  | k + 1 => match ops[k]? with
    | some o => if E k = true then putT (tmE ops V tm E k) o.dst (V k) else tmE ops V tm E k
    | none => tmE ops V tm E k

section
variable {ops : Array Oper} {V : Nat → Value} {tm : Tr Value} {E E' : Nat → Bool}

theorem putT_get (t : Tr Value) (d : Option Tmp) (v : Value) (u : Tmp) : (putT t d v).get u = if d = some u then some v else t.get u := by
  cases d with
  | none => simp [putT]
  | some d =>
    show (t.set d (some v)).get u = _
    rw [Tr.get_set]
    by_cases e : u = d
    · simp [e]
    · rw [if_neg e, if_neg (by intro h; cases h; exact e rfl)]

theorem tmE_stay {u : Tmp} {i : Nat} : ∀ m, i ≤ m → (∀ k o, i ≤ k → k < m → ops[k]? = some o → E k = true → o.dst ≠ some u) → (tmE ops V tm E m).get u = (tmE ops V tm E i).get u
  | 0, h, _ => by have : i = 0 := by omega
                  rw [this]
  | m + 1, h, hk => by
    by_cases e : i = m + 1
    · rw [e]
    · have ih := tmE_stay (u := u) (i := i) m (by omega) fun k o h1 h2 => hk k o h1 (by omega)
      simp only [tmE]
      split
      · rename_i o ho
        split
        · rename_i hE
          rw [putT_get, if_neg (hk m o (by omega) (by omega) ho hE)]
          exact ih
        · exact ih
      · exact ih

/-- as the run in textual order had it -/
theorem tmE_text {TM : Nat → Tr Value} (h0 : TM 0 = tm) (hTM : ∀ k o, ops[k]? = some o → TM (k + 1) = putT (TM k) o.dst (V k)) {u : Tmp} :
    ∀ i, i ≤ ops.size → (∀ k o, k < i → ops[k]? = some o → o.dst = some u → E k = true) → (tmE ops V tm E i).get u = (TM i).get u
  | 0, _, _ => by rw [h0]; rfl
  | i + 1, hi, h => by
    have ih := tmE_text h0 hTM i (by omega) fun k o h1 => h k o (by omega)
    have ho : ops[i]? = some ops[i] := by simp
    simp only [tmE, ho]
    rw [hTM i _ ho, putT_get]
    by_cases e : ops[i].dst = some u
    · rw [if_pos e, if_pos (h i _ (by omega) ho e), putT_get, if_pos e]
    · rw [if_neg e]
      split
      · rw [putT_get, if_neg e]; exact ih
      · exact ih

theorem tmE_more {i : Nat} {o : Oper} (ho : ops[i]? = some o) (hE' : ∀ k, E' k = if k = i then true else E k) {u : Tmp} (hu : o.dst ≠ some u) : ∀ m, (tmE ops V tm E' m).get u = (tmE ops V tm E m).get u
  | 0 => rfl
  | m + 1 => by
    have ih := tmE_more ho hE' hu m
    simp only [tmE]
    split
    · rename_i p hp
      by_cases e : m = i
      · subst e
        rw [ho] at hp; cases hp
        have : E' m = true := by rw [hE']; simp
        rw [if_pos this, putT_get, if_neg hu, ih]
        split
        · rw [putT_get, if_neg hu]
        · rfl
      · rw [hE', if_neg e]
        split
        · rw [putT_get, putT_get, ih]
        · exact ih
    · exact ih
end

theorem EnvR.of_get {tm tm2 : Tr Value} {a : Act} (e : EnvR ρ tm a) (h : ∀ u, tm2.get u = tm.get u) : EnvR ρ tm2 a := by
  intro u
  rw [h u]
  exact e u

theorem evO_get {tm tm2 : Tr Value} {x : Operand} (h : ∀ t, x = .tmp t → tm.get t = tm2.get t) : evO tm x = evO tm2 x := by
  cases x with
  | tmp t =>
    show envT (tm.get t) = envT (tm2.get t)
    rw [h t rfl]
  | _ => rfl

theorem wantC_get {T : Tab} {ops : Array Oper} {o : Oper} {b : Nat} {tm tm2 : Tr Value} (h : ∀ u, u ∈ namesOf ops o → tm.get u = tm2.get u) : wantC (cOne T ops o b).guard tm = wantC (cOne T ops o b).guard tm2 := by
  unfold cOne
  cases hg : o.guard with
  | none => rfl
  | some jw =>
    obtain ⟨j, w⟩ := jw
    simp only
    cases hd : (ops[j]?).bind (·.dst) with
    | none => rfl
    | some d =>
      have : tm.get d = tm2.get d := h d (by unfold namesOf; simp [hg, hd])
      simp only [wantC, this]

theorem names_operand {ops : Array Oper} {o : Oper} {t : Tmp} (h : Operand.tmp t ∈ o.op.operands) : t ∈ namesOf ops o := by
  unfold namesOf
  rw [List.mem_append]
  right
  rw [List.mem_filterMap]
  exact ⟨.tmp t, by simpa using h, rfl⟩

theorem names_dst {ops : Array Oper} {o : Oper} {t : Tmp} (h : o.dst = some t) : t ∈ namesOf ops o := by
  unfold namesOf
  simp [h]

theorem regD_sound {T : Tab} {rec : Rec} (hE : Enters T.prog) (hS : SoundRec T rec) (hM : MonoRec rec) (hSum : SumOk T) (hB : B0.Fits T) {ops : Array Oper} {nt : Nat} (hd : dstsOk nt ops = true) (hr : regOk ops = true)
    {tm tm' : Tr Value} {a : Act} (h : regD T rec H (cOps T ops ops.toList (Region.before ops).toList) 0 tm s [] = .ok tm' s') (e : EnvR ρ tm a) (hnt : nt ≤ a.tmps.size) (hdef : a.defers = []) (p : Pre B0 H s s' ρ G w)
    {Q : Exit → Act → World → Prop} (hQ : ∀ ρ' a' w', EnvR ρ' tm' a' → nt ≤ a'.tmps.size → a'.defers = [] → Post B0 H s s' ρ ρ' G w w' → Q .normal a' w') :
    wpAny T.prog .any ops Q ops.size (Array.replicate ops.size false) a w := by
  have hfr := mono_regD hSum hM h
  have hf := regOk_spec hr
  obtain ⟨S, TM, V, RS, LG, HK, a1, a2, a3, a4, a5, a6, a7⟩ := regD_trace _ _ _ _ _ _ _ _ h
  rw [Array.length_toList] at a4 a5 a6
  have hst : ∀ k o, ops[k]? = some o → StepAt T rec H ops (befOf ops k) o k (S k) (S (k + 1)) (TM k) (TM (k + 1)) (V k) (LG k) (HK k) (RS k) (RS (k + 1)) := by
    intro k o ho
    have := a7 k o (by rw [Array.getElem?_toList]; exact ho)
    rw [Nat.zero_add] at this
    have hb : (Region.before ops).toList.getD k 0 = befOf ops k := by
      unfold befOf
      rw [List.getD_eq_getElem?_getD, Array.getElem?_toList, Array.getD_eq_getD_getElem?]
    rw [hb] at this
    exact this
  have hTM : ∀ k o, ops[k]? = some o → TM (k + 1) = putT (TM k) o.dst (V k) := fun k o ho => (hst k o ho).1
  let ran : Nat → Bool := fun k => match ops[k]? with | some o => wantC (cOne T ops o (befOf ops k)).guard (TM k) | none => false
  let tch : Nat → Bool := fun k => match ops[k]? with | some o => !pureOp o.op | none => false
  have hran : ∀ k o, ops[k]? = some o → ran k = wantC (cOne T ops o (befOf ops k)).guard (TM k) := fun k o ho => by simp only [ran, ho]
  have htch : ∀ k o, ops[k]? = some o → tch k = !pureOp o.op := fun k o ho => by simp only [tch, ho]
  have L := led_of hSum hM hf a3 a6 (by rw [a1]; exact p.wf) hst hran htch
  have hG : Sub H (S 0) G := by rw [a1]; exact p.sub
  have hdst : ∀ (k : Nat) (o : Oper), ops[k]? = some o → ∀ t, o.dst = some t → t < nt := by
    intro k o ho t ht
    have hmem : o ∈ ops.toList := List.mem_of_getElem? (by rw [Array.getElem?_toList]; exact ho)
    have := List.all_eq_true.1 hd o hmem
    rw [ht] at this
    simpa [Nat.blt_eq] using this
  have hn1 : (S ops.size).next = s'.next := by rw [a4]
  have hn0 : (S 0).next = s.next := by rw [a1]
  -- all orders
  have main : ∀ fuel (listed : Array Bool) (a : Act) (w1 : World) (ρ1 : Ren), listed.size = ops.size →
      (∃ todo : List Nat, todo.length = fuel ∧ ∀ k, k < ops.size → listed.getD k false = false → k ∈ todo) →
      (∀ k m, k < ops.size → listed.getD k false = true → (befOf ops k).testBit m = true → listed.getD m false = true) →
      EnvR ρ1 (tmE ops V tm (fun k => listed.getD k false) ops.size) a → nt ≤ a.tmps.size → a.defers = [] → RenLe ρ ρ1 →
      (∀ x, ρ x = none → ρ1 x ≠ none → ∃ k, k < ops.size ∧ listed.getD k false = true ∧ Own S k x) →
      Sim B0 ρ1 (GE ran S G (fun k => listed.getD k false) ops.size) w1 → Below B0 w w1 → wpAny T.prog .any ops Q fuel listed a w1 := by
    intro fuel
    induction fuel with
    | zero =>
      intro listed a w1 ρ1 hsz ⟨todo, ht1, ht2⟩ hcl he hnt hdef hext hnew hsim hbel
      have hall : ∀ k, k < ops.size → listed.getD k false = true := by
        intro k hk
        cases hl : listed.getD k false with
        | true => rfl
        | false => have := ht2 k hk hl; rw [List.length_eq_zero_iff.1 ht1] at this; cases this
      refine ⟨?_, ?_⟩
      · cases hrd : Region.ready .any ops listed with
        | nil => rfl
        | cons j js =>
          have hj : j ∈ Region.ready .any ops listed := by rw [hrd]; simp
          obtain ⟨h1, o, h2, _⟩ := mem_ready.1 hj
          have hlt : j < ops.size := (Array.getElem?_eq_some_iff.1 h2).1
          have := hall j hlt
          simp only [Array.getD_eq_getD_getElem?] at h1 this
          rw [Array.getElem?_eq_getElem (by omega)] at h1 this
          simp only [Option.getD_some] at h1 this
          rw [h1] at this; cases this
      · refine hQ ρ1 a w1 (he.of_get fun u => ?_) hnt hdef ⟨hext, fun x h1 h2 => ?_, ?_, hbel, hfr⟩
        · rw [← a5]
          exact (tmE_text a2 hTM ops.size (Nat.le_refl _) fun k o h1 _ _ => hall k h1).symm
        · obtain ⟨k, h3, _, h4⟩ := hnew x h1 h2
          have := L.le (show 0 ≤ k by omega) (by omega)
          have := L.le (show k + 1 ≤ ops.size by omega) (Nat.le_refl _)
          unfold Own at h4
          omega
        · rw [← a1, ← a4, ← L.whole hG hall]
          exact hsim
    | succ fuel ih =>
      intro listed a w1 ρ1 hsz ⟨todo, ht1, ht2⟩ hcl he hnt hdef hext hnew hsim hbel
      refine ⟨fun hrd => ?_, fun i hi => ?_⟩
      · -- nothing is ready: all ran
        have hall : ∀ k, k < ops.size → listed.getD k false = true := by
          intro k
          induction k using Nat.strongRecOn with
          | _ k ihk =>
            intro hk
            cases hl : listed.getD k false with
            | true => rfl
            | false =>
              have ho : ops[k]? = some ops[k] := by simp [hk]
              have : k ∈ Region.ready .any ops listed := by
                rw [mem_ready]
                refine ⟨?_, ops[k], ho, fun ed h1 h2 => ?_⟩
                · simp only [Array.getD_eq_getD_getElem?] at hl ⊢
                  rw [Array.getElem?_eq_getElem (by omega)] at hl ⊢
                  exact hl
                · have hb : (befOf ops k).testBit ed.on = true := (before_bits ho ed.on).2 ⟨ed, h1, h2, .inl rfl⟩
                  have hlt := hf.small k ed.on hk hb
                  exact ihk ed.on hlt (by omega)
              rw [hrd] at this; cases this
        refine hQ ρ1 a w1 (he.of_get fun u => ?_) hnt hdef ⟨hext, fun x h1 h2 => ?_, ?_, hbel, hfr⟩
        · rw [← a5]
          exact (tmE_text a2 hTM ops.size (Nat.le_refl _) fun k o h1 _ _ => hall k h1).symm
        · obtain ⟨k, h3, _, h4⟩ := hnew x h1 h2
          have := L.le (show 0 ≤ k by omega) (by omega)
          have := L.le (show k + 1 ≤ ops.size by omega) (Nat.le_refl _)
          unfold Own at h4
          omega
        · rw [← a1, ← a4, ← L.whole hG hall]
          exact hsim
      · obtain ⟨h1, o, ho, h3⟩ := mem_ready.1 hi
        have hlt : i < ops.size := (Array.getElem?_eq_some_iff.1 ho).1
        have hEi : listed.getD i false = false := by
          simp only [Array.getD_eq_getD_getElem?] at h1 ⊢
          rw [Array.getElem?_eq_getElem (by omega)] at h1 ⊢
          exact h1
        have hbi : ∀ m, (befOf ops i).testBit m = true → listed.getD m false = true := by
          intro m hm
          obtain ⟨ed, h4, h5, h6⟩ := (before_bits ho m).1 hm
          have h7 := h3 ed h4 h5
          rcases h6 with h6 | ⟨h6, h8⟩
          · rw [← h6]; exact h7
          · exact hcl ed.on m (by omega) h7 h8
        have hE' : ∀ k, (listed.setIfInBounds i true).getD k false = if k = i then true else listed.getD k false := by
          intro k
          rw [Array.getD_eq_getD_getElem?, Array.getD_eq_getD_getElem?, Array.getElem?_setIfInBounds]
          by_cases e1 : i = k
          · subst e1; rw [if_pos rfl, if_pos (by omega), if_pos rfl]; rfl
          · rw [if_neg e1, if_neg (fun h => e1 h.symm)]
        -- names
        have hget : ∀ u, u ∈ namesOf ops o → (tmE ops V tm (fun k => listed.getD k false) ops.size).get u = (TM i).get u := by
          intro u hu
          rw [tmE_stay (i := i) ops.size (by omega)]
          · refine tmE_text a2 hTM i (by omega) fun k q h4 h5 h6 => ?_
            rcases hf.names i k o q u ho h5 (by omega) h6 hu with h7 | h7
            · exact hbi k h7
            · have := hf.small k i (by omega) h7; omega
          · intro k q h4 h5 h6 h7 h8
            by_cases e1 : k = i
            · subst e1; rw [hEi] at h7; cases h7
            · rcases hf.names i k o q u ho h6 (fun e => e1 e.symm) h8 hu with h9 | h9
              · have := hf.small i k hlt h9; omega
              · have := hcl k i h5 h7 h9; rw [hEi] at this; cases this
        have hget2 : ∀ u, (tmE ops V tm (fun k => (listed.setIfInBounds i true).getD k false) ops.size).get u = (putT (tmE ops V tm (fun k => listed.getD k false) ops.size) o.dst (V i)).get u := by
          intro u
          rw [putT_get]
          by_cases hu : o.dst = some u
          · rw [if_pos hu, tmE_stay (i := i + 1) ops.size (by omega)]
            · simp only [tmE, ho]
              rw [if_pos (by rw [hE']; simp), putT_get, if_pos hu]
            · intro k q h4 h5 h6 h7 h8
              rw [hE', if_neg (by omega)] at h7
              rcases hf.names i k o q u ho h6 (by omega) h8 (names_dst hu) with h9 | h9
              · have := hf.small i k hlt h9; omega
              · have := hcl k i h5 h7 h9; rw [hEi] at this; cases this
          · rw [if_neg hu]
            exact tmE_more ho hE' hu _
        have hdst' : ∀ t, o.dst = some t → t < a.tmps.size := fun t ht => Nat.lt_of_lt_of_le (hdst i o ho t ht) hnt
        have next : ∀ {ρ2 : Ren} {v' : Value} {w2 : World}, VR ρ2 (V i) v' → RenLe ρ1 ρ2 → (∀ x, ρ1 x = none → ρ2 x ≠ none → Own S i x) →
            Sim B0 ρ2 (GE ran S G (fun k => (listed.setIfInBounds i true).getD k false) ops.size) w2 → Below B0 w1 w2 →
            wpAny T.prog .any ops Q fuel (listed.setIfInBounds i true) (a.put o.dst v') w2 := by
          intro ρ2 v' w2 g1 g2 g3 g4 g5
          refine ih _ _ _ ρ2 (by simp [hsz]) ⟨todo.erase i, ?_, fun k hk hl => ?_⟩ (fun k m hk hl hb => ?_) (((he.mono g2).put g1 hdst').of_get hget2) (by rw [put_size]; exact hnt) (by rw [put_defers']; exact hdef)
            (hext.trans g2) (fun x h4 h5 => ?_) g4 (hbel.trans g5)
          · rw [List.length_erase_of_mem (ht2 i hlt hEi), ht1]; rfl
          · rw [hE'] at hl
            by_cases e1 : k = i
            · rw [if_pos e1] at hl; cases hl
            · rw [if_neg e1] at hl
              exact (List.mem_erase_of_ne e1).2 (ht2 k hk hl)
          · rw [hE'] at hl ⊢
            by_cases e2 : m = i
            · rw [if_pos e2]
            · rw [if_neg e2]
              by_cases e1 : k = i
              · subst e1; exact hbi m hb
              · rw [if_neg e1] at hl; exact hcl k m hk hl hb
          · cases h6 : ρ1 x with
            | none => exact ⟨i, hlt, by rw [hE']; simp, g3 x h6 h5⟩
            | some l =>
              obtain ⟨k, h7, h8, h9⟩ := hnew x h4 (by rw [h6]; simp)
              refine ⟨k, h7, ?_, h9⟩
              rw [hE', h8]; simp
        have hw : wantC (cOne T ops o (befOf ops i)).guard (TM i) = Region.wanted o (yielded ops a.tmps) := by
          rw [← want_eq he (befOf ops i) T]
          exact (wantC_get hget).symm
        unfold wpOp
        simp only [ho]
        obtain ⟨_, hstep | hstep⟩ := hst i o ho
        · obtain ⟨s1, f, s2, _, s3, s4, _⟩ := hstep
          rw [if_pos (by rw [← hw]; exact s1)]
          left
          have hri : ran i = true := by rw [hran i o ho]; exact s1
          rcases run_of_cOne s2 with hbad | ⟨hc, hopn⟩
          · rw [hbad] at s3; cases s3
          · have hcong : ∀ H' s0, f H' (tmE ops V tm (fun k => listed.getD k false) ops.size) s0 = f H' (TM i) s0 := fun H' s0 =>
              cOp_congr hc (fun x hx => evO_get fun t ht => hget t (names_operand (by rw [← ht]; exact hx))) H' s0
            cases hp : pureOp o.op with
            | true =>
              obtain ⟨r, hr'⟩ := pure_cOp hp hc (TM i)
              have hval : f [] (tmE ops V tm (fun k => listed.getD k false) ops.size) ⟨.lf, 0, []⟩ = .ok (.val (V i)) ⟨.lf, 0, []⟩ := by
                rw [hcong, hr']
                rw [hr'] at s3
                cases r with
                | bad w => cases s3
                | ok n u =>
                  cases n with
                  | val v =>
                    have s3 : (R.ok v (⟨(S i).heap, (S i).next, []⟩ : St) : R Value) = _ := s3
                    obtain ⟨h5, _⟩ := ok_inj s3
                    rw [← h5]; rfl
                  | enter f args => cases s3
                  | round l f tm as bd => cases s3
              have hfin : fin T [] (rec []) (f [] (tmE ops V tm (fun k => listed.getD k false) ops.size) ⟨.lf, 0, []⟩) = .ok (V i) ⟨.lf, 0, []⟩ := by rw [hval]; rfl
              have hsub : Sub [] ⟨.lf, 0, []⟩ (GE ran S G (fun k => listed.getD k false) ops.size) := by
                intro x o' hx
                rw [vis_eq] at hx
                simp [hidden_nil] at hx
              have hp0 : Pre B0 [] ⟨.lf, 0, []⟩ ⟨.lf, 0, []⟩ ρ1 (GE ran S G (fun k => listed.getD k false) ops.size) w1 := ⟨hsub, fun x _ => by simp, fun x _ h5 => absurd h5 (by simp), hsim⟩
              refine fin_sound hE hS hM hSum hB hc hopn hfin he hp0 fun ρ2 v' w2 g1 g2 => ?_
              have g3 := g2.sim
              rw [upd_refl _ _ _ hsub, ← GE_quiet L hlt hE' (.inr (by rw [htch i o ho, hp]; rfl))] at g3
              exact next g1 g2.ext (fun x h5 h6 => absurd (g2.new x h5 h6) (by simp)) g3 g2.below
            | false =>
              have htc : tch i = true := by rw [htch i o ho, hp]; rfl
              have hsub := L.sees hG hcl hlt hEi hbi hri htc
              have hp0 : Pre B0 (HK i) ⟨(S i).heap, (S i).next, []⟩ ⟨(S (i + 1)).heap, (S (i + 1)).next, LG i⟩ ρ1 (GE ran S G (fun k => listed.getD k false) ops.size) w1 := by
                refine ⟨hsub, L.wfk i (by omega), fun x h5 h6 => ?_, hsim⟩
                cases h7 : ρ1 x with
                | none => rfl
                | some l =>
                  exfalso
                  have q1 := L.le (show 0 ≤ i by omega) (by omega)
                  have q2 := L.le (show i + 1 ≤ ops.size by omega) (Nat.le_refl _)
                  have h5 : (S i).next ≤ x := h5
                  have h6 : x < (S (i + 1)).next := h6
                  obtain ⟨k, h8, h9, h10⟩ := hnew x (p.fresh x (by omega) (by omega)) (by rw [h7]; simp)
                  unfold Own at h10
                  rcases Nat.lt_trichotomy k i with h11 | h11 | h11
                  · have := L.le (show k + 1 ≤ i by omega) (by omega); omega
                  · subst h11; rw [hEi] at h9; cases h9
                  · have := L.le (show i + 1 ≤ k by omega) (by omega); omega
              have hfin : fin T (HK i) (rec (HK i)) (f (HK i) (tmE ops V tm (fun k => listed.getD k false) ops.size) ⟨(S i).heap, (S i).next, []⟩) = .ok (V i) ⟨(S (i + 1)).heap, (S (i + 1)).next, LG i⟩ := by
                rw [hcong]; exact s3
              refine fin_sound hE hS hM hSum hB hc hopn hfin he hp0 fun ρ2 v' w2 g1 g2 => ?_
              have g3 := g2.sim
              rw [L.more hcl hlt hEi hri hE' hsub] at g3
              exact next g1 g2.ext (fun x h5 h6 => g2.new x h5 h6) g3 g2.below
        · obtain ⟨s1, s2, s3, s4⟩ := hstep
          rw [if_neg (by rw [← hw, s1]; simp)]
          have hri : ran i = false := by rw [hran i o ho]; exact s1
          refine next (ρ2 := ρ1) (by rw [s2]; exact VR.undef _) (.refl _) (fun x h5 h6 => absurd h5 h6) ?_ (.refl _ _)
          rw [GE_quiet L hlt hE' (.inl hri)]
          exact hsim
  have hE0 : ∀ k, (Array.replicate ops.size false).getD k false = false := by
    intro k
    rw [Array.getD_eq_getD_getElem?, Array.getElem?_replicate]
    split <;> rfl
  have htm0 : ∀ m, tmE ops V tm (fun k => (Array.replicate ops.size false).getD k false) m = tm := by
    intro m
    induction m with
    | zero => rfl
    | succ m ih =>
      simp only [tmE]
      split
      · rw [if_neg (by rw [hE0]; simp)]; exact ih
      · exact ih
  have hG0 : ∀ m, GE ran S G (fun k => (Array.replicate ops.size false).getD k false) m = G := by
    intro m
    induction m with
    | zero => rfl
    | succ m ih => funext x; rw [GE_neg (by rw [hE0]; simp), ih]
  refine main ops.size _ a w ρ (by simp) ⟨List.range ops.size, by simp, fun k hk _ => by simpa using hk⟩ (fun k m hk hl _ => ?_) (by rw [htm0]; exact e) hnt hdef (.refl _) (fun x h1 h2 => absurd h1 h2) (by rw [hG0]; exact p.sim) (.refl _ _)
  rw [hE0] at hl; cases hl

end Go.Ev
