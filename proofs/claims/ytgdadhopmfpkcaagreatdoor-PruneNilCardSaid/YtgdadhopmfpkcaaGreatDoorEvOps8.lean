/- Every operation that the evaluator takes is the machine's. -/
import Derived.Test.YtgdadhopmfpkcaaGreatDoorEvOps7
set_option linter.unusedVariables false
set_option linter.unusedSimpArgs false
namespace Go.Ev
open Go.RowKit

variable {B0 : Base} {H : Hid} {s s' : St} {ρ : Ren} {G : Hp} {w : World} {nx : Nx}

/-- the program's functions with a body are entered -/
def Enters (P : Program) : Prop := ∀ f fi, fiOf P f = some fi → ∀ args w, (callFunc f args).run P w = .ok (.enter f args) w

theorem box_inj {α : Type} {a b : α} (h : Box.mk a = Box.mk b) : a = b := by cases h; rfl

theorem op_call_value {P : Program} (hE : Enters P) {a : Act} {dst : Option Tmp} {x : Operand} {args : Array Operand} {ats : Array TypeId} {ty : TypeId} {pos : String} {after : Array Edge} {g : Option (Nat × Bool)}
    {f : FuncId} {first captured : Array Value} {fi : FI} (hx : a.eval x = .func (.func f) first captured) (hf : fiOf P f = some fi) :
    (execOp a.eval ⟨dst, .call ⟨.value x, args, ats⟩, ty, pos, after, g⟩).run P w = .ok (.enter f (first ++ args.map a.eval ++ captured)) w := by
  simp only [execOp, resolve, hx, Deferred.ofValue, invoke, Sem.run_bind, Sem.run_pure, Result.andThen_ok]
  exact hE f fi hf _ _

theorem s_callV {P : Program} (hE : Enters P) {a : Act} {dst : Option Tmp} {x : Operand} {args : Array Operand} {ats : Array TypeId} {ty : TypeId} {pos : String} {after : Array Edge} {g : Option (Nat × Bool)}
    {fv : Value} {vs : List Value} (h : doCallV P fv vs s = .ok nx s') (hf : VR ρ fv (a.eval x)) (hvs : VRs ρ vs (args.map a.eval).toList) (p : Pre B0 H s s' ρ G w) :
    Done P B0 H s s' ρ G w nx (execOp a.eval ⟨dst, .call ⟨.value x, args, ats⟩, ty, pos, after, g⟩) := by
  unfold doCallV at h
  split at h
  · rename_i f first captured
    split at h
    · rename_i fi hfi
      obtain ⟨rfl, rfl⟩ := ok_inj h
      generalize hq : a.eval x = q at hf
      cases hf with
      | func _ ha hc =>
        refine ⟨ρ, w, _, op_call_value hE hq hfi, .enter ?_, .refl p.sub p.sim⟩
        rw [Array.toList_append, Array.toList_append]
        exact (ha.append hvs).append hc
    · cases h
  · cases h

theorem run_method {P : Program} {t : TypeId} {name : String} {f : FuncId} {v : Value} {n : Nat} (h : methOf P t name = some f) : (method (n + 1) t v name).run P w = .ok (f, v) w := by
  unfold methOf at h
  split at h
  · rename_i i hi
    split at h
    · rename_i m hm
      split at h
      · rename_i f' e hf hp hu
        cases h
        simp only [method, Sem.run_bind, run_typeInfo hi, Result.andThen_ok, hm, hp, follow, Sem.run_pure, hf, receiverAt, run_underlying hu, Place.get]
      · rename_i f' fs hf hp hu
        cases h
        simp only [method, Sem.run_bind, run_typeInfo hi, Result.andThen_ok, hm, hp, follow, Sem.run_pure, hf, receiverAt, run_underlying hu, Place.get]
      · cases h
    · cases h
  · cases h

theorem s_invoke {P : Program} (hE : Enters P) {a : Act} {dst : Option Tmp} {r : Operand} {name : String} {args : Array Operand} {ats : Array TypeId} {ty : TypeId} {pos : String} {after : Array Edge} {g : Option (Nat × Bool)}
    {x : Value} {vs : List Value} (h : doInvoke P name x vs s = .ok nx s') (hx : VR ρ x (a.eval r)) (hvs : VRs ρ vs (args.map a.eval).toList) (p : Pre B0 H s s' ρ G w) :
    Done P B0 H s s' ρ G w nx (execOp a.eval ⟨dst, .call ⟨.invoke r name, args, ats⟩, ty, pos, after, g⟩) := by
  unfold doInvoke at h
  split at h
  · rename_i t v
    split at h
    · rename_i f hm
      split at h
      · rename_i fi hfi
        obtain ⟨rfl, rfl⟩ := ok_inj h
        generalize hq : a.eval r = q at hx
        cases hx with
        | iface hv =>
          rename_i v'
          refine ⟨ρ, w, .enter f (#[v'] ++ args.map a.eval), ?_, .enter ?_, .refl p.sub p.sim⟩
          · have h0 : (#[Value.iface t v'] ++ Array.map a.eval args)[0]? = some (.iface t v') := by rw [← Array.getElem?_toList, Array.toList_append]; rfl
            have h1 : (#[Value.iface t v'] ++ Array.map a.eval args).extract 1 (#[Value.iface t v'] ++ Array.map a.eval args).size = Array.map a.eval args := by
              apply Array.toList_inj.1
              simp
              exact List.take_of_length_le (by simp)
            have hd : P.types.size + Made.depth = (P.types.size + (Made.depth - 1)) + 1 := by
              have : 0 < Made.depth := by decide
              omega
            have hr : (callMethod (.iface t v') name (Array.map a.eval args)).run P w = .ok (.enter f (#[v'] ++ args.map a.eval)) w := by
              simp only [callMethod, Sem.run_bind, run_program, Result.andThen_ok]
              rw [hd, run_method hm]
              simp only [Result.andThen_ok]
              exact hE f fi hfi _ _
            simp only [execOp, resolve, Sem.run_bind, Sem.run_pure, Result.andThen_ok, hq, invoke]
            split
            · rename_i hx1
              rw [h0] at hx1
              cases hx1
              rw [h1]
              exact hr
            · rename_i hx1
              exact absurd h0 (hx1 _)
          · rw [Array.toList_append]; exact .cons hv hvs
      · cases h
    · cases h
  · cases h

theorem tiOf_und {P : Program} {t : TypeId} {ti : TI} (h : tiOf P t = some ti) : P.underlying t = some ti.und := by
  obtain ⟨_, _, hu, _⟩ := tiOf_spec h
  exact hu

theorem ovr_map {tm : Tr Value} {a : Act} (e : EnvR ρ tm a) (x : Option Operand) (h : ∀ y, x = some y → opndOk y = true) : OVR ρ (x.map (evO tm)) (x.map a.eval) := by
  cases x with
  | none => exact .none
  | some y => exact .some (e.eval (h y rfl))

theorem psr_map {tm : Tr Value} {a : Act} (e : EnvR ρ tm a) : ∀ (ps : List (Nat × Operand)), (∀ p ∈ ps, opndOk p.2 = true) → PsR ρ (ps.map fun p => (p.1, evO tm p.2)) (ps.map fun p => (p.1, a.eval p.2))
  | [], _ => .nil
  | p :: ps, h => .cons (e.eval (h p (by simp))) (psr_map e ps fun q hq => h q (by simp [hq]))

theorem op_sound {T : Tab} (hE : Enters T.prog) {tm : Tr Value} {a : Act} {o : Oper} {f : OpF} (hc : cOp T o = .mk f) (h : f H tm s = .ok nx s') (e : EnvR ρ tm a) (ho : Opnds o) (p : Pre B0 H s s' ρ G w) :
    Done T.prog B0 H s s' ρ G w nx (execOp a.eval o) := by
  obtain ⟨dst, op, ty, pos, after, g⟩ := o
  cases op with
  | move x =>
    cases hc; obtain ⟨rfl, rfl⟩ := ok_inj h
    exact ⟨ρ, w, .value (a.eval x), rfl, .val (e.eval (ho x (by simp [Op.operands]))), .refl p.sub p.sim⟩
  | assign x =>
    cases hc; obtain ⟨rfl, rfl⟩ := ok_inj h
    exact ⟨ρ, w, .value (a.eval x), rfl, .val (e.eval (ho x (by simp [Op.operands]))), .refl p.sub p.sim⟩
  | pick c x y =>
    cases hc
    exact s_pick h (e.eval (ho c (by simp [Op.operands]))) (e.eval (ho x (by simp [Op.operands]))) (e.eval (ho y (by simp [Op.operands]))) p
  | alloc t =>
    simp only [cOp] at hc
    split at hc
    · rename_i z ht
      cases hg : ground z with
      | false => rw [hg] at hc; cases hc; cases h
      | true =>
        rw [hg] at hc; cases hc
        obtain ⟨ρ', w', nx', h1, h2, h3⟩ := s_box (P := T.prog) h (ground_self hg) p
        refine ⟨ρ', w', nx', ?_, h2, h3⟩
        rw [← h1]
        simp [execOp, Instr.alloc, run_zeroValue ht rfl, semV]
    · cases hc; cases h
  | box t x =>
    cases hc
    exact s_box h (e.eval (ho x (by simp [Op.operands]))) p
  | load t x =>
    simp only [cOp] at hc
    split at hc
    · rename_i ti ht
      cases hagg : ti.agg with
      | false => rw [hagg] at hc; cases hc; exact s_load1 h (e.eval (ho x (by simp [Op.operands]))) p ht hagg
      | true => rw [hagg] at hc; cases hc; exact s_loadN h (e.eval (ho x (by simp [Op.operands]))) p ht hagg
    · cases hc; cases h
  | store t x y =>
    simp only [cOp] at hc
    split at hc
    · rename_i ti ht
      cases hagg : ti.agg with
      | false =>
        rw [hagg] at hc
        cases hb : Nat.beq ti.size 1 with
        | false => rw [hb] at hc; cases hc; cases h
        | true =>
          rw [hb] at hc; cases hc
          exact s_store1 h (e.eval (ho x (by simp [Op.operands]))) (e.eval (ho y (by simp [Op.operands]))) p ht (by simpa [Nat.beq_eq] using hb)
      | true => rw [hagg] at hc; cases hc; exact s_storeN h (e.eval (ho x (by simp [Op.operands]))) (e.eval (ho y (by simp [Op.operands]))) p ht
    · cases hc; cases h
  | fieldAddr st x i =>
    simp only [cOp] at hc
    split at hc
    · rename_i fs _ _ _ ht
      split at hc
      · rename_i fl hfl
        split at hc
        · rename_i ti hti
          cases hb : Nat.beq ti.size 0 with
          | true => rw [hb] at hc; cases hc; cases h
          | false =>
            rw [hb] at hc; cases hc
            exact s_field h (e.eval (ho x (by simp [Op.operands]))) p (tiOf_und ht) hfl hti rfl (fun e0 => by rw [← Nat.beq_eq] at e0; rw [e0] at hb; cases hb)
        · cases hc; cases h
      · cases hc; cases h
    · cases hc; cases h
  | field st x i =>
    simp only [cOp] at hc
    split at hc
    · rename_i fs _ _ _ ht
      split at hc
      · rename_i fl hfl
        split at hc
        · rename_i ti hti
          cases hc
          exact s_fieldV h (e.eval (ho x (by simp [Op.operands]))) p (tiOf_und ht) hfl hti rfl rfl rfl
        · cases hc; cases h
      · cases hc; cases h
    · cases hc; cases h
  | indexAddr t x ix =>
    simp only [cOp] at hc
    split at hc
    · rename_i el _ _ _ ht
      split at hc
      · rename_i ti hti
        cases hc
        exact s_indexS h (e.eval (ho x (by simp [Op.operands]))) (e.eval (ho ix (by simp [Op.operands]))) p (tiOf_und ht) hti
      · cases hc; cases h
    · rename_i n el _ _ _ ht
      split at hc
      · rename_i ti hti
        cases hc
        exact s_indexA h (e.eval (ho x (by simp [Op.operands]))) (e.eval (ho ix (by simp [Op.operands]))) p (tiOf_und ht) hti
      · cases hc; cases h
    · cases hc; cases h
  | index t x ix =>
    simp only [cOp] at hc
    split at hc
    · rename_i ht
      cases hc
      exact s_indexStr h (e.eval (ho x (by simp [Op.operands]))) (e.eval (ho ix (by simp [Op.operands]))) p (tiOf_und ht)
    · rename_i n el _ _ _ ht
      split at hc
      · rename_i ti hti
        cases hc
        exact s_indexAgg h (e.eval (ho x (by simp [Op.operands]))) (e.eval (ho ix (by simp [Op.operands]))) p (tiOf_und ht) hti rfl rfl
      · cases hc; cases h
    · cases hc; cases h
  | binOp op t x y t2 =>
    cases hc
    exact s_bin rfl h e ho p
  | unOp op t x =>
    cases hc
    exact s_gen h e ho (by simp) p
  | extract x i =>
    cases hc
    exact s_extract h (e.eval (ho x (by simp [Op.operands]))) p
  | makeInterface t x =>
    simp only [cOp] at hc
    split at hc
    · cases hc; cases h
    · rename_i ti hn ht
      cases hc
      exact s_makeIface h (e.eval (ho x (by simp [Op.operands]))) p (tiOf_und ht) (fun ms e0 => hn ms ti.size ti.agg ti.zero (by cases ti; simp_all))
    · cases hc; cases h
  | nilCheck x =>
    cases hc
    exact s_nilCheck rfl rfl h (e.eval (ho x (by simp [Op.operands]))) p
  | slice t x lo hi mx =>
    have hlo := ovr_map e lo fun y hy => ho y (by simp [Op.operands, hy])
    have hhi := ovr_map e hi fun y hy => ho y (by simp [Op.operands, hy])
    have hmx := ovr_map e mx fun y hy => ho y (by simp [Op.operands, hy])
    simp only [cOp] at hc
    split at hc
    · rename_i el _ _ _ ht
      split at hc
      · rename_i ti hti
        cases hb : (mx.isNone || hi.isSome) with
        | false => rw [hb] at hc; cases hc; cases h
        | true =>
          rw [hb] at hc; cases hc
          exact s_slice h (e.eval (ho x (by simp [Op.operands]))) hlo hhi hmx p (fun hm => by cases mx <;> cases hi <;> simp_all) (tiOf_und ht) hti
      · cases hc; cases h
    · rename_i ht
      split at hc
      · cases hc
        exact s_sliceStr h (e.eval (ho x (by simp [Op.operands]))) hlo hhi p (tiOf_und ht)
      · cases hc; cases h
    · cases hc; cases h
  | convert src dst' x =>
    simp only [cOp] at hc
    split at hc
    · rename_i tsrc hsrc
      split at hc
      · rename_i k _ _ _ ht
        cases hc
        exact s_convert rfl h e ho p (tiOf_und hsrc) (tiOf_und ht)
      · cases hc
        exact s_gen h e ho (by simp) p
    · cases hc; cases h
  | typeAssert x xt asserted ok =>
    simp only [cOp] at hc
    split at hc
    · cases hc; cases h
    · rename_i und sz ag z hn ht
      cases hc
      refine s_assert h (e.eval (ho x (by simp [Op.operands]))) p ht (fun ms e0 => hn ms e0) (fun v hv => ?_)
      cases z with
      | none => cases hv
      | some z =>
        simp only at hv
        split at hv
        · cases hv; exact ⟨rfl, by assumption⟩
        · cases hv
    · cases hc; cases h
  | makeFunc fn first captured =>
    simp only [cOp] at hc
    split at hc
    · rename_i f0
      cases hc
      have h1 := e.evals first.toList fun y hy => ho y (by simp [Op.operands, Array.mem_def.2 hy])
      have h2 := e.evals captured.toList fun y hy => ho y (by simp [Op.operands, Array.mem_def.2 hy])
      have := s_makeFunc (P := T.prog) h h1 h2 (by simp) p
      have e1 : (⟨first.toList.map a.eval⟩ : Array Value) = first.map a.eval := by apply Array.toList_inj.1; simp
      have e2 : (⟨captured.toList.map a.eval⟩ : Array Value) = captured.map a.eval := by apply Array.toList_inj.1; simp
      rw [e1, e2] at this
      exact this
    · cases hc; cases h
  | makeMap t r =>
    simp only [cOp] at hc
    split at hc
    · cases hc
      exact s_makeMap h p
    · cases hc; cases h
  | lookup t x ix ok =>
    simp only [cOp] at hc
    split at hc
    · rename_i kt et _ _ _ ht
      split at hc
      · rename_i ki hki
        split at hc
        · rename_i z hz
          cases hg : ground z with
          | false => rw [hg] at hc; cases hc; cases h
          | true =>
            rw [hg] at hc; cases hc
            exact s_lookup h (e.eval (ho x (by simp [Op.operands]))) (e.eval (ho ix (by simp [Op.operands]))) p (tiOf_und ht) (tiOf_und hki) hz rfl hg
        · cases hc; cases h
      · cases hc; cases h
    · cases hc; cases h
  | mapUpdate t m k v =>
    simp only [cOp] at hc
    split at hc
    · rename_i kt et _ _ _ ht
      split at hc
      · rename_i ki hki
        cases hc
        exact s_update h (e.eval (ho m (by simp [Op.operands]))) (e.eval (ho k (by simp [Op.operands]))) (e.eval (ho v (by simp [Op.operands]))) p (tiOf_und ht) (tiOf_und hki)
      · cases hc; cases h
    · cases hc; cases h
  | insert t m k v =>
    simp only [cOp] at hc
    split at hc
    · rename_i kt et _ _ _ ht
      split at hc
      · rename_i ki hki
        cases hc
        exact s_update h (e.eval (ho m (by simp [Op.operands]))) (e.eval (ho k (by simp [Op.operands]))) (e.eval (ho v (by simp [Op.operands]))) p (tiOf_und ht) (tiOf_und hki)
      · cases hc; cases h
    · cases hc; cases h
  | makeSlice t l c =>
    simp only [cOp] at hc
    split at hc
    · rename_i el _ _ _ ht
      split at hc
      · rename_i sz _ z hz
        cases hg : (ground z && Nat.beq (vcells z).length sz) with
        | false => rw [hg] at hc; cases hc; cases h
        | true =>
          rw [hg] at hc; cases hc
          simp only [Bool.and_eq_true, Nat.beq_eq] at hg
          exact s_makeSlice h (e.eval (ho l (by simp [Op.operands]))) (e.eval (ho c (by simp [Op.operands]))) p (tiOf_und ht) hz rfl hg.1 hg.2
      · cases hc; cases h
    · cases hc; cases h
  | build t parts =>
    have hps := psr_map e parts.toList fun q hq => ho q.2 (by simp [Op.operands]; exact ⟨q.1, Array.mem_def.2 hq⟩)
    have hps' : ∀ {L : List (Nat × Value)}, L = parts.toList.map (fun p => (p.1, evO tm p.2)) → PsR ρ L (parts.map fun (i, x) => (i, a.eval x)).toList := by
      intro L hL
      rw [hL, Array.toList_map]
      exact hps
    simp only [cOp] at hc
    split at hc
    · rename_i fs _ _ z ht
      split at hc
      · rename_i pl hpl
        cases hg : ground z with
        | false => rw [hg] at hc; cases hc; cases h
        | true =>
          rw [hg] at hc; cases hc
          exact s_buildStruct h (hps' rfl) p ht rfl rfl hg hpl
      · cases hc; cases h
    · rename_i n el _ _ z ht
      split at hc
      · rename_i te hte
        cases hg : ground z with
        | false => rw [hg] at hc; cases hc; cases h
        | true =>
          rw [hg] at hc; cases hc
          exact s_buildArray h (hps' rfl) p ht rfl rfl hg hte
      · cases hc; cases h
    · cases hc; cases h
  | buildSlice t n parts =>
    have hps := psr_map e parts.toList fun q hq => ho q.2 (by simp [Op.operands]; exact ⟨q.1, Array.mem_def.2 hq⟩)
    have hps' : ∀ {L : List (Nat × Value)}, L = parts.toList.map (fun p => (p.1, evO tm p.2)) → PsR ρ L (parts.map fun (i, x) => (i, a.eval x)).toList := by
      intro L hL
      rw [hL, Array.toList_map]
      exact hps
    simp only [cOp] at hc
    split at hc
    · rename_i el _ _ _ ht
      split at hc
      · rename_i sz _ z hz
        cases hg : (ground z && Nat.beq (vcells z).length sz && Nat.ble (n * sz) 65536) with
        | false => rw [hg] at hc; cases hc; cases h
        | true =>
          rw [hg] at hc; cases hc
          simp only [Bool.and_eq_true, Nat.beq_eq, Nat.ble_eq] at hg
          exact s_buildSlice h (hps' rfl) p (tiOf_und ht) hz rfl hg.1.1 hg.1.2 hg.2
      · cases hc; cases h
    · cases hc; cases h
  | call c =>
    obtain ⟨callee, args, ats⟩ := c
    have hargs := e.evals args.toList fun y hy => ho y (by simp [Op.operands, Call.operands]; exact .inr (Array.mem_def.2 hy))
    have hargs2 : VRs ρ (args.toList.map (evO tm)) (args.map a.eval).toList := by rw [Array.toList_map]; exact hargs
    cases callee with
    | invoke r name =>
      cases hc
      exact s_invoke hE h (e.eval (ho r (by simp [Op.operands, Call.operands]))) hargs2 p
    | value x =>
      have hx := e.eval (ho x (by simp [Op.operands, Call.operands]))
      have direct : ∀ g0, x = .func g0 → Done T.prog B0 H s s' ρ G w nx (execOp a.eval ⟨dst, .call ⟨.value x, args, ats⟩, ty, pos, after, g⟩) := by
        intro g0 hx0
        subst hx0
        simp only [cOp] at hc
        split at hc
        · rename_i fi hfi
          cases hc
          obtain ⟨rfl, rfl⟩ := ok_inj h
          refine ⟨ρ, w, _, op_call_value hE (f := g0) (first := #[]) (captured := #[]) rfl hfi, .enter ?_, .refl p.sub p.sim⟩
          simpa using hargs
        · cases hc; cases h
      cases x with
      | func g0 => exact direct g0 rfl
      | tmp t => cases hc; exact s_callV hE h hx hargs2 p
      | const v => cases hc; exact s_callV hE h hx hargs2 p
      | global q => cases hc; exact s_callV hE h hx hargs2 p
    | builtin b =>
      have hex : ∀ m : Sem Value, builtin b ats ty (args.map fun | .const _ => true | _ => false) (args.map a.eval) = semV m → execOp a.eval ⟨dst, .call ⟨.builtin b, args, ats⟩, ty, pos, after, g⟩ = semV m := fun m hm => hm
      obtain ⟨args⟩ := args
      obtain ⟨ats⟩ := ats
      cases b with
      | append =>
        simp only [cOp] at hc
        split at hc
        · rename_i x y
          split at hc
          · rename_i t t2
            split at hc
            · rename_i el _ _ _ ht
              split at hc
              · rename_i te hte
                split at hc
                · cases hc; cases h
                · cases hc; cases h
                · rename_i ti2 hn ht2
                  split at hc
                  · rename_i z hz
                    cases hb : Nat.beq (vcells z).length te.size with
                    | false => rw [hb] at hc; cases hc; cases h
                    | true =>
                      rw [hb] at hc; cases hc
                      rw [hex _ rfl]
                      obtain ⟨i, hi, _⟩ := tiOf_spec hte
                      have hm : (Array.map a.eval ⟨[x, y]⟩) = ⟨[a.eval x, a.eval y]⟩ := by simp
                      rw [hm]
                      exact s_append h (e.eval (ho x (by simp [Op.operands, Call.operands]))) (e.eval (ho y (by simp [Op.operands, Call.operands]))) p
                        ⟨tiOf_und ht, ⟨_, tiOf_und ht2, fun k e0 => hn k ti2.size ti2.agg ti2.zero (by cases ti2; simp_all)⟩, hte, hi⟩ hz (by simpa [Nat.beq_eq] using hb)
                  · cases hc; cases h
              · cases hc; cases h
            · cases hc; cases h
          · cases hc; cases h
        · cases hc; cases h
      | len =>
        simp only [cOp] at hc
        split at hc
        · rename_i x
          split at hc
          · rename_i t
            split at hc
            · cases hc; exact s_gen h e ho (by simp) p
            · cases hc
              rw [hex _ rfl]
              have hm : (Array.map a.eval ⟨[x]⟩) = ⟨[a.eval x]⟩ := by simp
              rw [hm]
              exact s_len h (e.eval (ho x (by simp [Op.operands, Call.operands]))) p
          · cases hc; cases h
        · cases hc; cases h
      | delete =>
        simp only [cOp] at hc
        split at hc
        · rename_i m k
          split at hc
          · rename_i t ts
            split at hc
            · rename_i kt et _ _ _ ht
              split at hc
              · rename_i ki hki
                cases hc
                rw [hex _ rfl]
                have hm : (Array.map a.eval ⟨[m, k]⟩) = ⟨[a.eval m, a.eval k]⟩ := by simp
                rw [hm]
                exact s_delete h (e.eval (ho m (by simp [Op.operands, Call.operands]))) (e.eval (ho k (by simp [Op.operands, Call.operands]))) p (tiOf_und ht) (tiOf_und hki)
              · cases hc; cases h
            · cases hc; cases h
          · cases hc; cases h
        · cases hc; cases h
      | min => cases hc; exact s_gen h e ho (by simp) p
      | max => cases hc; exact s_gen h e ho (by simp) p
      | _ => cases hc; cases h
  | _ => cases hc; cases h

end Go.Ev
