/- Frames, regions in the order of their text, calls. -/
import Derived.Test.YtgdadhopmfpkcaaGreatDoorEvMono
set_option linter.unusedVariables false
set_option linter.unusedSimpArgs false
namespace Go.Ev
open Go.RowKit

variable {B0 : Base} {H : Hid} {s s' : St} {ρ : Ren} {G : Hp} {w : World} {nx : Nx}

theorem fiOf_spec {P : Program} {f : FuncId} {fi : FI} (h : fiOf P f = some fi) : ∃ fn, P.funcs[f]? = some fn ∧ fn.body = some fi.body ∧ fn.ntmps = fi.ntmps ∧ fn.results.toList = fi.results := by
  unfold fiOf at h
  split at h
  · rename_i fn hfn
    split at h
    · rename_i c hc
      cases h
      exact ⟨fn, hfn, hc, rfl, rfl⟩
    · cases h
  · cases h

structure FrOk (ρ : Ren) (fr : AF) (b : Frame) (a : Act) : Prop where
  fn : b.fn = fr.fn
  kind : b.kind = .normal
  defs : a.defers = []
  env : EnvR ρ fr.tmps a
  nt : fr.nt ≤ a.tmps.size
  rof : fr.rof = none
  dfs : fr.defers = []

def MonoRec (rec : Rec) : Prop := ∀ H fr s v s', rec H fr s = .ok v s' → Fr H s s'

/-- a run's ground has what the summaries ask for -/
def Base.Fits (B0 : Base) (T : Tab) : Prop := ∀ w, B0.inv w → T.inv w

def SoundRec (T : Tab) (rec : Rec) : Prop := ∀ H fr s v s', rec H fr s = .ok v s' → ∀ (B0 : Base) ρ G w b a, B0.Fits T → FrOk ρ fr b a → Pre B0 H s s' ρ G w → ∀ cs,
  ∃ ρ' w' v' fr', Steps T.prog (lone (b.at a fr.todo) cs w) (lone fr' cs w') ∧ fr'.fn = b.fn ∧ fr'.leaving T.prog w' (.returned v') ∧ VR ρ' v v' ∧ Post B0 H s s' ρ ρ' G w w'

/-- what is told of functions without a run -/
def SumsOk (T : Tab) : Prop := ∀ f args v, T.sum f args = some v → ground v = true ∧ ∀ (ρ : Ren) (args' : Array Value) w, T.inv w → VRs ρ args args'.toList →
  Calls T.prog f args' w fun e w' => e = .returned v ∧ Below w.heap.size w w'

/-- a call, as it was carried out elsewhere -/
def CallOk (T : Tab) (H : Hid) (f : FuncId) (args : List Value) (s : St) (v : Value) (s' : St) : Prop := ∀ (B0 : Base) ρ G w (args' : Array Value), B0.Fits T → VRs ρ args args'.toList → Pre B0 H s s' ρ G w →
  Calls T.prog f args' w fun e w' => ∃ ρ' v', e = .returned v' ∧ VR ρ' v v' ∧ Post B0 H s s' ρ ρ' G w w'

def MemoOk (T : Tab) : Prop := ∀ f args H s v s', T.memo f args H s = some (v, s') → Fr H s s' ∧ CallOk T H f args s v s'

structure SumOk (T : Tab) : Prop where
  sum : SumsOk T
  memo : MemoOk T

theorem Sim.below {w' : World} (h : Sim B0 ρ G w) (hb : Below w.heap.size w w') : Sim B0 ρ G w' := by
  have hk2 := B0.keep _ _ h.inv (hb.mono h.base)
  have hk : ∀ k, k < w.heap.size → w'.heap[k]? = w.heap[k]? := hb.block
  refine ⟨fun b o hbo => ?_, h.inj, fun b l hl => ?_, Nat.le_trans h.base hb.size, hk2⟩
  · obtain ⟨l, h1, x, h2, h3⟩ := h.obj b o hbo
    exact ⟨l, h1, x, by rw [hk _ (h.own b l h1).2]; exact h2, h3⟩
  · have := h.own b l hl; have := hb.size; omega

theorem Post.calm {w' : World} (hsub : Sub H s G) (hs : Sim B0 ρ G w) (hb : Below w.heap.size w w') : Post B0 H s s ρ ρ G w w' :=
  ⟨.refl _, fun x a c => absurd a c, by rw [upd_refl G H s hsub]; exact hs.below hb, hb.mono hs.base, .refl _ _⟩

theorem calls_of {T : Tab} {rec : Rec} (hS : SoundRec T rec) (hB : B0.Fits T) {f : FuncId} {args : List Value} {args' : Array Value} {fr : AF} {v : Value} (hfr : enterA T f args = some fr) (h : rec H fr s = .ok v s')
    (hargs : VRs ρ args args'.toList) (p : Pre B0 H s s' ρ G w) :
    Calls T.prog f args' w fun e w' => ∃ ρ' v', e = .returned v' ∧ VR ρ' v v' ∧ Post B0 H s s' ρ ρ' G w w' := by
  unfold enterA at hfr
  split at hfr
  · rename_i fi hfi
    cases hfr
    obtain ⟨fn, hf, hb, hn, _⟩ := fiOf_spec hfi
    intro cs
    have hlen := hargs.length
    have henter : Frame.enter T.prog f args' .normal =
        ({ (default : Frame) with fn := f, kind := .normal } : Frame).at { tmps := args' ++ Array.replicate (fn.ntmps - args'.size) undef, defers := [] } [.code fi.body] := by
      simp [Frame.enter, Frame.at, hf, hb]
    have henv : EnvR ρ (trOf args 0 .lf) { tmps := args' ++ Array.replicate (fn.ntmps - args'.size) undef, defers := [] } := by
      intro t
      show VR ρ (envT ((trOf args 0 .lf).get t)) _
      rw [get_trOf]
      by_cases e : 0 ≤ t ∧ t < 0 + args.length
      · rw [if_pos e, Nat.sub_zero]
        have h1 : args[t]? = some (args[t]'(by omega)) := List.getElem?_eq_getElem (by omega)
        obtain ⟨u, hu, hr⟩ := hargs.get h1
        rw [h1]
        have : (args' ++ Array.replicate (fn.ntmps - args'.size) undef).getD t undef = u := by
          rw [Array.getD_eq_getD_getElem?, ← Array.getElem?_toList, Array.toList_append, List.getElem?_append_left (by omega), hu]
          rfl
        rw [this]
        exact hr
      · rw [if_neg e]
        have : (args' ++ Array.replicate (fn.ntmps - args'.size) undef).getD t undef = undef := by
          rw [Array.getD_eq_getD_getElem?, ← Array.getElem?_toList, Array.toList_append, List.getElem?_append_right (by omega)]
          simp only [Array.toList_replicate, List.getElem?_replicate]
          split <;> rfl
        rw [this]
        exact VR.undef ρ
    have hsz : fi.ntmps ≤ (args' ++ Array.replicate (fn.ntmps - args'.size) undef).size := by
      simp only [Array.size_append, Array.size_replicate]; omega
    obtain ⟨ρ', w', v', fr', h1, h2, h3, h4, h5⟩ := hS _ _ _ _ _ h B0 ρ G w ({ (default : Frame) with fn := f, kind := .normal } : Frame) { tmps := args' ++ Array.replicate (fn.ntmps - args'.size) undef, defers := [] }
      hB ⟨rfl, rfl, rfl, henv, hsz, rfl, rfl⟩ p cs
    rw [henter]
    exact ⟨.returned v', w', fr', ⟨ρ', v', rfl, h4, h5⟩, h1, h2, h3⟩
  · cases hfr

theorem mono_fin {T : Tab} {rec : Rec} (hSum : SumOk T) (hM : MonoRec rec) {r : R Nx} {v : Value} (hr : leR H s r) (h : fin T H (rec H) r = .ok v s') : Fr H s s' ∧ ∀ nx s1, r = .ok nx s1 → Fr H s1 s' := by
  cases r with
  | bad w => cases h
  | ok nx s1 =>
    have h1 := hr nx s1 rfl
    have key : Fr H s1 s' := by
      cases nx with
      | val v' => cases h; exact Fr.refl _ _
      | enter f args =>
        have h : (match T.sum f args with | some v => .ok v s1 | none => match T.memo f args H s1 with | some (v, s2) => .ok v s2 | none => match enterA T f args with | some fr => rec H fr s1 | none => .bad "enter" : R Value) = .ok v s' := h
        split at h
        · cases h; exact Fr.refl _ _
        · split at h
          · rename_i hm
            cases h
            exact (hSum.memo _ _ _ _ _ _ hm).1
          · split at h
            · exact hM _ _ _ _ _ h
            · cases h
      | round l f tm as bd => exact hM _ _ _ _ _ h
    refine ⟨h1.trans key, fun nx' s1' e => ?_⟩
    cases e
    exact key

/-- an operation, a call carried out: the machine's -/
theorem fin_sound {T : Tab} {rec : Rec} (hE : Enters T.prog) (hS : SoundRec T rec) (hM : MonoRec rec) (hSum : SumOk T) (hB : B0.Fits T) {o : Oper} {f : OpF} {tm : Tr Value} {a : Act} {v : Value}
    (hc : cOp T o = .mk f) (ho : Opnds o) (h : fin T H (rec H) (f H tm s) = .ok v s') (e : EnvR ρ tm a) (p : Pre B0 H s s' ρ G w)
    {next : Act → World → Prop} {Q : Exit → Act → World → Prop} (hn : ∀ ρ' v' w', VR ρ' v v' → Post B0 H s s' ρ ρ' G w w' → next (a.put o.dst v') w') : o.wp T.prog a w next Q := by
  have hle := le_cOp hc H tm s
  cases hf : f H tm s with
  | bad w => rw [hf] at h; cases h
  | ok nx s1 =>
    rw [hf] at h hle
    have hm := ((mono_fin hSum hM hle h).2 nx s1 rfl).next
    obtain ⟨ρ1, w1, nx', h1, h2, h3⟩ := op_sound hE hc hf e ho (p.first hm)
    unfold Oper.wp
    rw [h1]
    cases h2 with
    | val hv =>
      have h : (R.ok _ s1 : R Value) = .ok v s' := h
      obtain ⟨rfl, rfl⟩ := ok_inj h
      exact hn _ _ _ hv h3
    | skip =>
      have h : (R.ok _ s1 : R Value) = .ok v s' := h
      obtain ⟨rfl, rfl⟩ := ok_inj h
      exact hn _ _ _ (VR.undef _) h3
    | enter hargs =>
      rename_i g args args'
      have h : (match T.sum g args with | some v => .ok v s1 | none => match T.memo g args H s1 with | some (v, s2) => .ok v s2 | none => match enterA T g args with | some fr => rec H fr s1 | none => .bad "enter" : R Value) = .ok v s' := h
      have p1 := p.next h3
      rw [Oper.upon_enter]
      split at h
      · rename_i u hu
        obtain ⟨rfl, rfl⟩ := ok_inj h
        obtain ⟨hg, hcalls⟩ := hSum.sum _ _ _ hu
        refine (hcalls ρ1 args' w1 (hB _ p1.sim.inv) hargs).mono ?_
        rintro e' w2 ⟨rfl, hb⟩
        exact hn ρ1 u w2 (ground_self hg) (h3.trans (Post.calm p1.sub p1.sim hb))
      · split at h
        · rename_i hmm
          cases h
          refine ((hSum.memo _ _ _ _ _ _ hmm).2 _ _ _ _ _ hB hargs p1).mono ?_
          rintro e' w2 ⟨ρ2, v', rfl, hv, hq⟩
          exact hn ρ2 v' w2 hv (h3.trans hq)
        · split at h
          · rename_i fr hfr
            refine (calls_of hS hB hfr h hargs p1).mono ?_
            rintro e' w2 ⟨ρ2, v', rfl, hv, hq⟩
            exact hn ρ2 v' w2 hv (h3.trans hq)
          · cases h

end Go.Ev
