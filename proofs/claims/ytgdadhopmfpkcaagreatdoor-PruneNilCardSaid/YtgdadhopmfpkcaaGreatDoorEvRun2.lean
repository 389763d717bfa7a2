/- Regions in the order of their text; the steps of a frame. -/
import Derived.Test.YtgdadhopmfpkcaaGreatDoorEvRun
set_option linter.unusedVariables false
set_option linter.unusedSimpArgs false
namespace Go.Ev
open Go.RowKit

variable {B0 : Base} {H : Hid} {s s' : St} {ρ : Ren} {G : Hp} {w : World} {nx : Nx}

theorem put_size (a : Act) (d : Option Tmp) (v : Value) : (a.put d v).tmps.size = a.tmps.size := by
  cases d <;> simp [Act.put]

theorem put_defers' (a : Act) (d : Option Tmp) (v : Value) : (a.put d v).defers = a.defers := by
  cases d <;> rfl

theorem EnvR.put {tm : Tr Value} {a : Act} (e : EnvR ρ tm a) {d : Option Tmp} {v v' : Value} (hv : VR ρ v v') (hd : ∀ t, d = some t → t < a.tmps.size) : EnvR ρ (putT tm d v) (a.put d v') := by
  cases d with
  | none => exact e
  | some t =>
    have ht := hd t rfl
    intro u
    show VR ρ (envT ((tm.set t (some v)).get u)) ((a.tmps.setIfInBounds t v').getD u undef)
    rw [Tr.get_set, Array.getD_eq_getD_getElem?, Array.getElem?_setIfInBounds]
    by_cases h : u = t
    · subst h
      rw [if_pos rfl, if_pos rfl, if_pos ht]
      exact hv
    · rw [if_neg h, if_neg (fun k => h k.symm)]
      have := e u
      rw [Array.getD_eq_getD_getElem?] at this
      exact this

theorem cOps_cons (T : Tab) (ops : Array Oper) (o : Oper) (l : List Oper) (bs : List Nat) : ∃ b bs', cOps T ops (o :: l) bs = cOne T ops o b :: cOps T ops l bs' := by
  cases bs with
  | nil => exact ⟨0, [], rfl⟩
  | cons b bs => exact ⟨b, bs, rfl⟩

theorem regA_cons (T : Tab) (rec : Rec) (H : Hid) (g : Option (Option Tmp × Bool)) (d : Option Tmp) (f : OpF) (b : Nat) (q : Bool) (sf : Box (Tr Value → Nat → Hid)) (l : List COp) (tm : Tr Value) (s : St) :
    regA T rec H (⟨g, d, .mk f, b, q, sf⟩ :: l) tm s = if wantC g tm = true then (fin T H (rec H) (f H tm s)).bind (fun v s => regA T rec H l (putT tm d v) s) else regA T rec H l (putT tm d undef) s := by
  show (Bool.rec (regA T rec H l (putT tm d undef) s) ((fin T H (rec H) (f H tm s)).bind fun v s => regA T rec H l (putT tm d v) s) (wantC g tm) : R (Tr Value)) = _
  rw [brec_ite]

theorem bind_ok {α β : Type} {r : R α} {f : α → St → R β} {b : β} {t : St} (h : r.bind f = .ok b t) : ∃ a u, r = .ok a u ∧ f a u = .ok b t := by
  cases r with
  | ok a u => exact ⟨a, u, rfl, h⟩
  | bad w => cases h

/-- a guard is asked alike -/
theorem want_eq {ops : Array Oper} {o : Oper} {tm : Tr Value} {a : Act} (e : EnvR ρ tm a) (b : Nat) (T : Tab) : wantC (cOne T ops o b).guard tm = Region.wanted o (yielded ops a.tmps) := by
  unfold cOne Region.wanted
  cases hg : o.guard with
  | none => rfl
  | some jw =>
    obtain ⟨j, w⟩ := jw
    simp only [yielded]
    cases hd : (ops[j]?).bind (·.dst) with
    | none => simp [wantC]
    | some d =>
      simp only [wantC, Option.bind_some]
      have hr := e d
      rw [Array.getD_eq_getD_getElem?] at hr
      cases hget : tm.get d with
      | none =>
        rw [hget] at hr
        cases ha : a.tmps[d]? with
        | none => rfl
        | some u =>
          rw [ha] at hr
          have hr : VR ρ undef u := hr
          unfold Go.undef at hr
          cases hr
          rfl
      | some v =>
        rw [hget] at hr
        have hr : VR ρ v (a.tmps[d]?.getD undef) := hr
        cases ha : a.tmps[d]? with
        | none =>
          rw [ha] at hr
          have hr : VR ρ v undef := hr
          unfold Go.undef at hr
          cases hr
          rfl
        | some u =>
          rw [ha] at hr
          have hr2 : VR ρ v u := hr
          clear hr
          cases hr2 with
          | bool b' => cases b' <;> cases w <;> rfl
          | _ => rfl

theorem mono_regA {T : Tab} {rec : Rec} (hSum : SumOk T) (hM : MonoRec rec) {ops : Array Oper} : ∀ (l : List Oper) (bs : List Nat) (tm : Tr Value) (s : St) (tm' : Tr Value) (s' : St),
    regA T rec H (cOps T ops l bs) tm s = .ok tm' s' → Fr H s s'
  | [], bs, tm, s, tm', s', h => by
    cases bs <;> (cases h; exact Fr.refl _ _)
  | o :: l, bs, tm, s, tm', s', h => by
    obtain ⟨b, bs', hb⟩ := cOps_cons T ops o l bs
    rw [hb] at h
    cases hrun : (cOne T ops o b).run with
    | mk f =>
      have hcone : cOne T ops o b = ⟨(cOne T ops o b).guard, o.dst, .mk f, b, pureOp o.op, .mk (seeOf o.op)⟩ := by rw [← hrun]; rfl
      rw [hcone, regA_cons] at h
      split at h
      · obtain ⟨v, u, h1, h2⟩ := bind_ok h
        have hle : leR H s (f H tm s) := by
          unfold cOne at hrun
          simp only at hrun
          rcases brec_or hrun with h3 | h3
          · cases h3; exact le_bad
          · exact le_cOp h3 H tm s
        exact (mono_fin hSum hM hle h1).1.trans (mono_regA hSum hM l bs' _ _ _ _ h2)
      · exact mono_regA hSum hM l bs' _ _ _ _ h

theorem opnds_of {o : Oper} (h : o.op.operands.toList.all opndOk = true) : Opnds o := fun x hx => List.all_eq_true.1 h x (by simpa using hx)

theorem run_of_cOne {T : Tab} {ops : Array Oper} {o : Oper} {b : Nat} {f : OpF} (h : (cOne T ops o b).run = .mk f) : (∀ H tm s, f H tm s = .bad "operand") ∨ (cOp T o = .mk f ∧ Opnds o) := by
  unfold cOne at h
  simp only at h
  cases hall : o.op.operands.toList.all opndOk with
  | false => rw [hall] at h; cases h; exact .inl fun _ _ _ => rfl
  | true => rw [hall] at h; exact .inr ⟨h, opnds_of hall⟩

/-- a region in the order of its text -/
theorem regA_sound {T : Tab} {rec : Rec} (hE : Enters T.prog) (hS : SoundRec T rec) (hM : MonoRec rec) (hSum : SumOk T) (hB : B0.Fits T) {ops : Array Oper} {nt : Nat} (hd : dstsOk nt ops = true) :
    ∀ (l : List Oper) (k : Nat) (bs : List Nat) (tm : Tr Value) (s : St) (tm' : Tr Value) (s' : St) (ρ : Ren) (G : Hp) (w : World) (a : Act), ops.toList.drop k = l →
    regA T rec H (cOps T ops l bs) tm s = .ok tm' s' → EnvR ρ tm a → nt ≤ a.tmps.size → a.defers = [] → Pre B0 H s s' ρ G w →
    ∀ {Q : Exit → Act → World → Prop}, (∀ ρ' a' w', EnvR ρ' tm' a' → nt ≤ a'.tmps.size → a'.defers = [] → Post B0 H s s' ρ ρ' G w w' → Q .normal a' w') →
    wpOps T.prog ops Q (List.range' k l.length) a w
  | [], k, bs, tm, s, tm', s', ρ, G, w, a, hl, h, e, hnt, hdef, p, Q, hQ => by
    have : (R.ok tm s : R (Tr Value)) = .ok tm' s' := by cases bs <;> exact h
    obtain ⟨rfl, rfl⟩ := ok_inj this
    exact hQ ρ a w e hnt hdef (.refl p.sub p.sim)
  | o :: l, k, bs, tm, s, tm', s', ρ, G, w, a, hl, h, e, hnt, hdef, p, Q, hQ => by
    have hget : ops[k]? = some o := by
      rw [← Array.getElem?_toList]
      have : (ops.toList.drop k)[0]? = some o := by rw [hl]; rfl
      rwa [List.getElem?_drop, Nat.add_zero] at this
    have hl' : ops.toList.drop (k + 1) = l := by
      have : (ops.toList.drop k).drop 1 = l := by rw [hl]; rfl
      rwa [List.drop_drop] at this
    have hdst : ∀ t, o.dst = some t → t < a.tmps.size := by
      intro t ht
      have hmem : o ∈ ops.toList := List.mem_of_getElem? (by rw [Array.getElem?_toList]; exact hget)
      have := List.all_eq_true.1 hd o hmem
      rw [ht] at this
      have : t < nt := by simpa [Nat.blt_eq] using this
      exact Nat.lt_of_lt_of_le this hnt
    obtain ⟨b, bs', hb⟩ := cOps_cons T ops o l bs
    rw [hb] at h
    cases hrun : (cOne T ops o b).run with
    | mk f =>
      have hcone : cOne T ops o b = ⟨(cOne T ops o b).guard, o.dst, .mk f, b, pureOp o.op, .mk (seeOf o.op)⟩ := by rw [← hrun]; rfl
      rw [hcone, regA_cons, want_eq e] at h
      rw [List.length_cons, List.range'_succ]
      simp only [wpOps, hget]
      split at h
      · rename_i hw
        rw [if_pos hw]
        obtain ⟨v, u, h1, h2⟩ := bind_ok h
        rcases run_of_cOne hrun with hbad | ⟨hc, ho⟩
        · rw [hbad] at h1; cases h1
        · have hm2 := (mono_regA hSum hM l bs' _ _ _ _ h2).next
          left
          refine fin_sound hE hS hM hSum hB hc ho h1 e (p.first hm2) fun ρ1 v1 w1 hv1 hq1 => ?_
          exact regA_sound hE hS hM hSum hB hd l (k + 1) bs' _ _ _ _ ρ1 _ w1 (a.put o.dst v1) hl' h2 ((e.mono hq1.ext).put hv1 hdst) (by rw [put_size]; exact hnt) (by rw [put_defers']; exact hdef) (p.next hq1)
            fun ρ2 a' w' h3 h4 h5 h6 => hQ ρ2 a' w' h3 h4 h5 (hq1.trans h6)
      · rename_i hw
        rw [if_neg hw]
        exact regA_sound hE hS hM hSum hB hd l (k + 1) bs' _ _ _ _ ρ _ w (a.put o.dst undef) hl' h (e.put (VR.undef ρ) hdst) (by rw [put_size]; exact hnt) (by rw [put_defers']; exact hdef) p hQ

/- the steps of a frame -/
section
variable {P : Program} {b : Frame} {a : Act} {k : List Item} {cs : List Frame}
theorem step_scope' {c : Code} : step P (lone (b.at a (.code (.scope c) :: k)) cs w) = .next (lone (b.at a (.code c :: .inScope c :: k)) cs w) :=
  step_lone_go (by simp [stepG, stepG.exec, Frame.at])
theorem step_inScope' {c : Code} : step P (lone (b.at a (.inScope c :: k)) cs w) = .next (lone (b.at a k) cs w) :=
  step_lone_go (by simp [stepG, stepG.exec, Frame.at])
end

theorem res_run {T : Tab} {fr : AF} {a : Act} (e : EnvR ρ fr.tmps a) (hsub : Sub H s G) (hs : Sim B0 ρ G w) : ∀ (l : List ResultVar) (vs : List Value), resA H T fr.tmps s l = some vs →
    ∃ vs', (l.mapM (fun x => (match x with | .tmp t => pure (a.tmps.getD t undef) | .cell ad t => do loadVar t (← asAddr (a.tmps.getD ad undef)) : Sem Value))).run T.prog w = .ok vs' w ∧ VRs ρ vs vs'
  | [], vs, h => by cases h; exact ⟨[], by simp, .nil⟩
  | .tmp t :: l, vs, h => by
    simp only [resA] at h
    split at h
    · rename_i us hu
      cases h
      obtain ⟨us', h1, h2⟩ := res_run e hsub hs l us hu
      refine ⟨a.tmps.getD t undef :: us', ?_, .cons (e t) h2⟩
      rw [List.mapM_cons]
      simp only [Sem.run_bind, Sem.run_pure, Result.andThen_ok, h1]
    · cases h
  | .cell ad t :: l, vs, h => by
    simp only [resA] at h
    split at h
    · rename_i ti hti
      have hx : VR ρ (evO fr.tmps (.tmp ad)) (a.tmps.getD ad undef) := e ad
      have main : ∀ (v : Value) (s2 : St), (∃ v' ad', VR ρ v v' ∧ a.tmps.getD ad undef = .pointer (some ad') ∧ (loadVar t ad').run T.prog w = .ok v' w) →
          (match resA H T fr.tmps s l with | some vs => some (v :: vs) | none => none) = some vs →
          ∃ vs', ((ResultVar.cell ad t :: l).mapM (fun x => (match x with | .tmp t => pure (a.tmps.getD t undef) | .cell ad t => do loadVar t (← asAddr (a.tmps.getD ad undef)) : Sem Value))).run T.prog w = .ok vs' w ∧ VRs ρ vs vs' := by
        intro v s2 hv hq
        obtain ⟨v', ad', h1, h2, h3⟩ := hv
        split at hq
        · rename_i us hu
          cases hq
          obtain ⟨us', h4, h5⟩ := res_run e hsub hs l us hu
          refine ⟨v' :: us', ?_, .cons h1 h5⟩
          have h6 : (asAddr (a.tmps.getD ad undef)).run T.prog w = .ok ad' w := by rw [h2]; rfl
          rw [List.mapM_cons]
          simp only [Sem.run_bind, h6, Sem.run_pure, Result.andThen_ok, h3, h4]
        · cases hq
      cases hagg : ti.agg with
      | false =>
        rw [hagg] at h
        split at h
        · rename_i v s2 hl
          obtain ⟨_, v1, v', ad', h1, h2, h3, h4⟩ := r_load1 hl hx hsub hs hti hagg
          cases h1
          exact main v s2 ⟨v', ad', h2, h3, h4⟩ h
        · cases h
      | true =>
        rw [hagg] at h
        split at h
        · rename_i v s2 hl
          obtain ⟨_, v1, v', ad', h1, h2, h3, h4⟩ := r_loadN hl hx hsub hs hti hagg
          cases h1
          exact main v s2 ⟨v', ad', h2, h3, h4⟩ h
        · cases h
    · cases h

theorem oneOf_run {l l' : List Value} (h : VRs ρ l l') : VR ρ (oneOf l) (if h : l'.toArray.size = 1 then l'.toArray[0] else .tuple l'.toArray) := by
  cases h with
  | nil => exact .tuple .nil
  | cons hv t =>
    cases t with
    | nil => exact hv
    | cons hv2 t2 =>
      rw [dif_neg (by simp)]
      exact .tuple (.cons hv (.cons hv2 t2))

theorem results_run {T : Tab} {fr : AF} {b : Frame} {a : Act} {fi : FI} {vs : List Value} (hok : FrOk ρ fr b a) (hsub : Sub H s G) (hs : Sim B0 ρ G w) (hfi : fiOf T.prog fr.fn = some fi) (h : resA H T fr.tmps s fi.results = some vs) :
    ∃ fn v', T.prog.funcs[b.fn]? = some fn ∧ (results fn a.tmps).run T.prog w = .ok v' w ∧ VR ρ (oneOf vs) v' := by
  obtain ⟨fn, hf, _, _, hr⟩ := fiOf_spec hfi
  obtain ⟨vs', h1, h2⟩ := res_run (T := T) hok.env hsub hs fi.results vs h
  refine ⟨fn, _, by rw [hok.fn]; exact hf, ?_, oneOf_run h2⟩
  unfold results
  have : (fn.results.mapM (fun x => (match x with | .tmp t => pure (a.tmps.getD t undef) | .cell ad t => do loadVar t (← asAddr (a.tmps.getD ad undef)) : Sem Value))).run T.prog w = .ok vs'.toArray w := by
    rw [← Array.toArray_toList (xs := fn.results), hr, List.mapM_toArray]
    simp only [Sem.run_map, h1, Result.andThen_ok]
  have key : ∀ f : ResultVar → Sem Value, (∀ x, f x = (match x with | .tmp t => pure (a.tmps.getD t undef) | .cell ad t => do loadVar t (← asAddr (a.tmps.getD ad undef)) : Sem Value)) →
      (fn.results.mapM f).run T.prog w = .ok vs'.toArray w := by
    intro f hfx
    rw [show f = _ from funext hfx]
    exact this
  simp only [Sem.run_bind]
  rw [key _ (fun x => by cases x <;> rfl)]
  simp only [Result.andThen_ok, Sem.run_pure]

end Go.Ev
