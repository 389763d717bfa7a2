/- A frame's steps; the whole run. -/
import Derived.Test.YtgdadhopmfpkcaaGreatDoorEvDraw2
set_option linter.unusedVariables false
set_option linter.unusedSimpArgs false
namespace Go.Ev
open Go.RowKit

variable {H : Hid} {s s' : St}

theorem fr_takeMarks {H : Hid} : ∀ (l : List Nat) (s s' : St), takeMarks H l s = some s' → Fr H s s'
  | [], s, s', h => by cases h; exact Fr.refl _ _
  | r :: l, s, s', h => by
    simp only [takeMarks] at h
    split at h
    · rename_i hv
      exact (Fr.set hv _).trans (fr_takeMarks l _ _ h)
    · cases h

theorem mono_leave {T : Tab} {fr : AF} {jump : Option Code} {v : Value} (h : leaveA H T fr jump s = .ok v s') : Fr H s s' := by
  unfold leaveA at h
  split at h
  · split at h
    · split at h
      all_goals first
        | (split at h
           · rename_i s1 hs1
             split at h
             · cases h; exact fr_takeMarks _ _ _ hs1
             · cases h
           · cases h)
        | cases h
    · cases h
  · split at h
    · rename_i hv
      cases h; exact Fr.set hv _
    · cases h

theorem mono_stepA {T : Tab} {rec : Rec} (hSum : SumOk T) (hM : MonoRec rec) : MonoRec (stepA T rec) := by
  intro H fr s v s' h
  unfold stepA at h
  repeat' first
    | exact mono_leave h
    | exact hM _ _ _ _ _ h
    | (cases h; done)
    | (obtain ⟨hb, h⟩ := brec_ok h)
    | split at h
  · rename_i tm s1 h1
    exact (mono_regA hSum hM _ _ _ _ _ _ h1).trans (hM _ _ _ _ _ h)
  · rename_i tm s1 h1
    exact (mono_regD hSum hM h1).trans (hM _ _ _ _ _ h)

theorem mono_runA {T : Tab} (hSum : SumOk T) : ∀ fuel, MonoRec (runA T fuel)
  | 0 => fun H fr s v s' h => by cases h
  | n + 1 => mono_stepA hSum (mono_runA hSum n)

theorem leave_sound {T : Tab} {B0 : Base} {ρ : Ren} {G : Hp} {w : World} {fr : AF} {b : Frame} {a : Act} {jump : Option Code} {v : Value} (h : leaveA H T fr jump s = .ok v s') (hok : FrOk ρ fr b a) (p : Pre B0 H s s' ρ G w) :
    s' = s ∧ (jump = none ∨ jump = some .ret) ∧ ∃ fn v', T.prog.funcs[b.fn]? = some fn ∧ (results fn a.tmps).run T.prog w = .ok v' w ∧ VR ρ v v' := by
  have hr := hok.rof
  have hd := hok.dfs
  unfold leaveA at h
  rw [hr] at h
  simp only at h
  split at h
  · rename_i fi hfi
    rw [hd] at h
    have main : (match resA H T fr.tmps s fi.results with | some vs => R.ok (oneOf vs) s | none => R.bad "results") = .ok v s' →
        s' = s ∧ ∃ fn v', T.prog.funcs[b.fn]? = some fn ∧ (results fn a.tmps).run T.prog w = .ok v' w ∧ VR ρ v v' := by
      intro hq
      split at hq
      · rename_i vs hvs
        obtain ⟨rfl, rfl⟩ := ok_inj hq
        exact ⟨rfl, results_run hok p.sub p.sim hfi hvs⟩
      · cases hq
    split at h
    · obtain ⟨h1, h2⟩ := main h; exact ⟨h1, .inl rfl, h2⟩
    · obtain ⟨h1, h2⟩ := main h; exact ⟨h1, .inr rfl, h2⟩
    · cases h
  · cases h

theorem sound_stepA {T : Tab} {rec : Rec} (hE : Enters T.prog) (hmix : T.prog.follows .mixedOrders = true) (hSum : SumOk T) (hS : SoundRec T rec) (hM : MonoRec rec) : SoundRec T (stepA T rec) := by
  intro H fr s v s' h B0 ρ G w b a hB hok p cs
  have go : ∀ {todo : List Item}, rec H (fr.to todo) s = .ok v s' → step T.prog (lone (b.at a fr.todo) cs w) = .next (lone (b.at a todo) cs w) →
      ∃ ρ' w' v' fr', Steps T.prog (lone (b.at a fr.todo) cs w) (lone fr' cs w') ∧ fr'.fn = b.fn ∧ fr'.leaving T.prog w' (.returned v') ∧ VR ρ' v v' ∧ Post B0 H s s' ρ ρ' G w w' := by
    intro todo h1 h2
    obtain ⟨ρ', w', v', fr', h3, h4⟩ := hS H (fr.to todo) s v s' h1 B0 ρ G w b a hB ⟨hok.fn, hok.kind, hok.defs, hok.env, hok.nt, hok.rof, hok.dfs⟩ p cs
    exact ⟨ρ', w', v', fr', .head h2 h3, h4⟩
  have leave : ∀ {jump : Option Code}, leaveA H T fr jump s = .ok v s' → step T.prog (lone (b.at a fr.todo) cs w) = .next (lone { b.at a fr.todo with mode := .returning } cs w) ∨ (jump ≠ none ∧ jump ≠ some .ret) →
      ∃ ρ' w' v' fr', Steps T.prog (lone (b.at a fr.todo) cs w) (lone fr' cs w') ∧ fr'.fn = b.fn ∧ fr'.leaving T.prog w' (.returned v') ∧ VR ρ' v v' ∧ Post B0 H s s' ρ ρ' G w w' := by
    intro jump h1 h2
    obtain ⟨rfl, hj, fn, v', h3, h4, h5⟩ := leave_sound h1 hok p
    rcases h2 with h2 | ⟨h6, h7⟩
    · exact ⟨ρ, w, v', _, .one h2, rfl, ⟨rfl, hok.defs, hok.kind, fn, h3, h4⟩, h5, .refl p.sub p.sim⟩
    · rcases hj with hj | hj
      · exact absurd hj h6
      · exact absurd hj h7
  have region : ∀ {id : Nat} {ops : Array Oper} {draw : Bool} {k : List Item} {tm1 : Tr Value} {s1 : St}, fr.todo = .code (.region id ops draw) :: k →
      (∀ {Q : Exit → Act → World → Prop}, (∀ ρ' a' w', EnvR ρ' tm1 a' → fr.nt ≤ a'.tmps.size → a'.defers = [] → Post B0 H s s1 ρ ρ' G w w' → Q .normal a' w') → (Code.region id ops draw).wp T.prog Q a w) →
      rec H { fn := fr.fn, nt := fr.nt, tmps := tm1, todo := k, defers := fr.defers, rof := fr.rof } s1 = .ok v s' →
      ∃ ρ' w' v' fr', Steps T.prog (lone (b.at a fr.todo) cs w) (lone fr' cs w') ∧ fr'.fn = b.fn ∧ fr'.leaving T.prog w' (.returned v') ∧ VR ρ' v v' ∧ Post B0 H s s' ρ ρ' G w w' := by
    intro id ops draw k tm1 s1 htodo hwp h1
    have := hwp (Q := fun e a' w' => e = .normal ∧ ∃ ρ', EnvR ρ' tm1 a' ∧ fr.nt ≤ a'.tmps.size ∧ a'.defers = [] ∧ Post B0 H s s1 ρ ρ' G w w') fun ρ' a' w' q1 q2 q3 q4 => ⟨rfl, ρ', q1, q2, q3, q4⟩
    obtain ⟨e, a', w1, ⟨rfl, ρ1, q1, q2, q3, q4⟩, harr⟩ := this b k cs
    obtain ⟨ρ', w', v', fr', h3, h4, h5, h6, h7⟩ := hS H _ s1 v s' h1 B0 ρ1 _ w1 b a' hB ⟨hok.fn, hok.kind, q3, q1, q2, hok.rof, hok.dfs⟩ (p.next q4) cs
    rw [htodo]
    exact ⟨ρ', w', v', fr', Steps.trans harr h3, h4, h5, h6, q4.trans h7⟩
  unfold stepA at h
  split at h
  · rename_i hq
    exact leave h (.inl (by rw [hq]; exact step_end))
  · rename_i id k hq
    exact go h (by rw [hq]; exact step_inBlock)
  · rename_i c k hq
    exact go h (by rw [hq]; exact step_inScope')
  · rename_i c k hq
    exact go h (by rw [hq]; exact step_inLoop)
  · rename_i c k hq
    split at h
    · exact leave h (.inl (by rw [hq]; exact step_ret))
    · exact go h (by rw [hq]; exact step_skip)
    · exact go h (by rw [hq]; exact step_label)
    · exact go h (by rw [hq]; exact step_seq)
    · rename_i c0 x y
      split at h
      · rename_i t ht
        have hb : a.eval c0 = .bool t := by
          have hc : opndOk c0 = true ∨ opndOk c0 = false := by cases opndOk c0 <;> simp
          rcases hc with hc | hc
          · have := hok.env.eval hc
            rw [ht] at this
            generalize a.eval c0 = z at this
            cases this; rfl
          · cases c0 with
            | tmp t => cases hc
            | func f => cases hc
            | const v => cases ht; rfl
            | global g => cases ht
        refine go h ?_
        rw [hq, step_cond hb]
        cases t <;> rfl
      · cases h
    · exact go h (by rw [hq]; exact step_block)
    · exact go h (by rw [hq]; exact step_loop)
    · exact go h (by rw [hq]; exact step_scope')
    · rename_i id
      split at h
      · rename_i k' hk'
        exact go h (by rw [hq]; exact step_exit hk')
      · exact leave h (.inr ⟨by simp, by simp⟩)
    · rename_i l
      split at h
      · rename_i k' hk'
        exact go h (by rw [hq]; exact step_goto hk')
      · exact leave h (.inr ⟨by simp, by simp⟩)
    · rename_i id ops
      obtain ⟨hd, h⟩ := brec_ok h
      split at h
      · rename_i tm1 s1 h1
        have hm := (hM _ _ _ _ _ h).next
        refine region hq (fun {Q} hQ => wp_region ?_) h
        have := regA_sound hE hS hM hSum hB hd ops.toList 0 [] fr.tmps s tm1 s1 ρ G w a rfl h1 hok.env hok.nt hok.defs (p.first hm) hQ
        rw [Array.length_toList, ← List.range_eq_range'] at this
        exact this
      · cases h
    · rename_i id ops
      obtain ⟨hd, h⟩ := brec_ok h
      simp only [Bool.and_eq_true] at hd
      split at h
      · rename_i tm1 s1 h1
        have hm := (hM _ _ _ _ _ h).next
        refine region hq (fun {Q} hQ => wp_region_any hmix ?_) h
        exact regD_sound hE hS hM hSum hB hd.1 hd.2 h1 hok.env hok.nt hok.defs ((p.first hm).drawn _) fun ρ' a' w' q1 q2 q3 q4 => hQ ρ' a' w' q1 q2 q3 (Post.drawn q4)
      · cases h
    · cases h
  · cases h

theorem sound_runA {T : Tab} (hE : Enters T.prog) (hmix : T.prog.follows .mixedOrders = true) (hSum : SumOk T) : ∀ fuel, SoundRec T (runA T fuel)
  | 0 => fun H fr s v s' h => by cases h
  | n + 1 => sound_stepA hE hmix hSum (sound_runA hE hmix hSum n) (mono_runA hSum n)

/-- THE EVALUATOR's WORD HOLDS: a call that it carries out to its end comes, on every tape, to the value that it told, and leaves alone all that lay before. -/
theorem callA_sound {T : Tab} (hE : Enters T.prog) (hmix : T.prog.follows .mixedOrders = true) (hSum : SumOk T) {fuel : Nat} {f : FuncId} {args : List Value} {v : Value} {s' : St}
    (h : callA T fuel f args st0 = .ok v s') (hg : ∀ x ∈ args, ground x = true) (w : World) (hk : ∀ w', Below w.heap.size w w' → T.inv w') :
    Calls T.prog f ⟨args⟩ w fun e w' => ∃ ρ v', e = .returned v' ∧ VR ρ v v' ∧ Below w.heap.size w w' := by
  unfold callA at h
  split at h
  · rename_i fr hfr
    let B0 : Base := ⟨w.heap.size, fun w' => Below w.heap.size w w', fun _ _ h1 h2 => h1.trans h2⟩
    have hp : Pre B0 [] st0 s' (fun _ => none) (fun _ => none) w := by
      refine ⟨fun x o hx => ?_, fun _ _ => by simp [st0], fun _ _ _ => rfl, ⟨fun b o hb => (by cases hb), fun b b' l l' hb => absurd rfl hb, fun b l hl => (by cases hl), Nat.le_refl _, .refl _ _⟩⟩
      rw [vis_eq] at hx
      simp [hidden_nil, st0] at hx
    have hargs : VRs (fun _ => none) args args := by
      clear h hfr
      induction args with
      | nil => exact .nil
      | cons x l ih => exact .cons (ground_self (hg x (by simp))) (ih fun y hy => hg y (by simp [hy]))
    refine (calls_of (sound_runA hE hmix hSum fuel) (B0 := B0) hk hfr h hargs hp).mono ?_
    rintro e w' ⟨ρ', v', rfl, h1, h2⟩
    exact ⟨ρ', v', rfl, h1, h2.below⟩
  · cases h

end Go.Ev
