/- Interface values, function values, maps, lengths, new slices. -/
import Derived.Test.YtgdadhopmfpkcaaGreatDoorEvOps3
set_option linter.unusedVariables false
set_option linter.unusedSimpArgs false
namespace Go.Ev
open Go.RowKit

variable {P : Program} {B0 : Base} {H : Hid} {s s' : St} {ρ : Ren} {G : Hp} {w : World} {nx : Nx}

theorem s_makeIface {t : TypeId} {x x' : Value} {d : TypeDesc} (h : doMakeIface t x s = .ok nx s') (hx : VR ρ x x') (p : Pre B0 H s s' ρ G w)
    (hu : P.underlying t = some d) (hd : ∀ ms, d ≠ .interface ms) : Done P B0 H s s' ρ G w nx (semV (Instr.makeInterface t x')) := by
  obtain ⟨rfl, rfl⟩ := ok_inj h
  refine done_same p ?_ (.iface hx)
  simp only [Instr.makeInterface, Sem.run_bind, run_underlying hu, Result.andThen_ok]
  cases d <;> first | exact absurd rfl (hd _) | rfl

theorem s_assert {asserted xt : TypeId} {z : Option Value} {ok : Bool} {x x' : Value} {ti : TI} (h : doAssert asserted z ok x s = .ok nx s') (hx : VR ρ x x') (p : Pre B0 H s s' ρ G w)
    (ht : tiOf P asserted = some ti) (hd : ∀ ms, ti.und ≠ .interface ms) (hz : ∀ v, z = some v → ti.zero = some v ∧ ground v = true) : Done P B0 H s s' ρ G w nx (semV (Instr.typeAssert x' xt asserted ok)) := by
  obtain ⟨i, _, hu, _⟩ := tiOf_spec ht
  have fails : ∀ (st dy : Option TypeId) (v : Value), z = some v → ok = true → nx = .val (.tuple #[v, .bool false]) → s' = s → 
      (Instr.typeAssert x' xt asserted ok).run P w = .ok (.tuple #[v, .bool false]) w → Done P B0 H s s' ρ G w nx (semV (Instr.typeAssert x' xt asserted ok)) := by
    intro _ _ v h1 h2 h3 h4 h5
    subst h3 h4
    exact done_same p h5 (.tuple (.cons (ground_self (hz v h1).2) (.cons (.bool false) .nil)))
  unfold doAssert at h
  split at h
  · rename_i t v
    cases hx with
    | iface hv =>
      rename_i v'
      cases hb : Nat.beq t asserted with
      | true =>
        rw [hb] at h
        obtain ⟨rfl, rfl⟩ := ok_inj h
        have hb : t = asserted := by simpa [Nat.beq_eq] using hb
        cases ok with
        | false =>
          refine done_same (v' := v') p ?_ hv
          simp only [Instr.typeAssert, Sem.run_bind, run_underlying hu, Result.andThen_ok]
          have := hd
          cases hq : ti.und <;> first | exact absurd hq (hd _) | simp [hb]
        | true =>
          refine done_same (v' := .tuple #[v', .bool true]) p ?_ (.tuple (.cons hv (.cons (.bool true) .nil)))
          simp only [Instr.typeAssert, Sem.run_bind, run_underlying hu, Result.andThen_ok]
          cases hq : ti.und <;> first | exact absurd hq (hd _) | simp [hb]
      | false =>
        rw [hb] at h
        obtain ⟨hok, h⟩ := brec_ok h
        have hb : t ≠ asserted := by intro e; rw [← Nat.beq_eq] at e; rw [e] at hb; cases hb
        cases z with
        | none => cases h
        | some zv =>
          obtain ⟨rfl, rfl⟩ := ok_inj h
          refine fails none none zv rfl hok rfl rfl ?_
          simp only [Instr.typeAssert, Sem.run_bind, run_underlying hu, Result.andThen_ok]
          cases hq : ti.und <;> first | exact absurd hq (hd _) | simp [hb, hok, run_zeroValue ht (hz zv rfl).1]
  · cases hx
    obtain ⟨hok, h⟩ := brec_ok h
    cases z with
    | none => cases h
    | some zv =>
      obtain ⟨rfl, rfl⟩ := ok_inj h
      refine fails none none zv rfl hok rfl rfl ?_
      simp only [Instr.typeAssert, Sem.run_bind, run_underlying hu, Result.andThen_ok]
      cases hq : ti.und <;> first | exact absurd hq (hd _) | simp [hok, run_zeroValue ht (hz zv rfl).1]
  · cases h

theorem s_makeFunc {fn : Fn} {l l' c c' : List Value} (h : doMakeFunc fn l c s = .ok nx s') (hl : VRs ρ l l') (hc : VRs ρ c c') (hf : ∀ k, fn ≠ .yield k) (p : Pre B0 H s s' ρ G w) :
    Done P B0 H s s' ρ G w nx (semV (Instr.makeFunc fn ⟨l'⟩ ⟨c'⟩)) := by
  obtain ⟨rfl, rfl⟩ := ok_inj h
  exact done_same p rfl (.func hf hl hc)

theorem s_nilCheck {x x' : Value} {o : Oper} {a : Act} {y : Operand} (hop : o.op = .nilCheck y) (hy : a.eval y = x') (h : doNilCheck x s = .ok nx s') (hx : VR ρ x x') (p : Pre B0 H s s' ρ G w) :
    Done P B0 H s s' ρ G w nx (execOp a.eval o) := by
  unfold doNilCheck at h
  split at h
  · cases h
  · cases h
  · cases h
  · cases h
  · rename_i h1 h2 h3 h4
    obtain ⟨rfl, rfl⟩ := ok_inj h
    refine ⟨ρ, w, .value x', ?_, .val hx, .refl p.sub p.sim⟩
    unfold execOp
    rw [hop]
    simp only [hy]
    cases hx <;> first | (exact absurd rfl h1) | (exact absurd rfl h2) | (exact absurd rfl h3) | rfl | skip
    rename_i fn a1 a2 c1 c2 hf _ _
    cases fn <;> first | rfl | exact absurd rfl (h4 _ _ _)

/- maps -/
theorem EsR.length : ∀ {l l' : List MapEntry}, EsR ρ l l' → l.length = l'.length
  | _, _, .nil => rfl
  | _, _, .cons _ _ _ t => by simp [EsR.length t]

theorem EsR.append : ∀ {a a' : List MapEntry}, EsR ρ a a' → ∀ {b b' : List MapEntry}, EsR ρ b b' → EsR ρ (a ++ b) (a' ++ b')
  | _, _, .nil, _, _, h => h
  | _, _, .cons hk hv hb t, _, _, k => .cons hk hv hb (EsR.append t k)

theorem keyFits_ground {d : TypeDesc} {k k' : Value} (h : keyFits d k = true) (r : VR ρ k k') : k' = k := by
  unfold keyFits at h
  split at h <;> first | exact absurd h (by decide) | (cases r; rfl)

theorem bytes_eq (a c : ByteArray) : (a == c) = (a.data.toList == c.data.toList) := by
  cases a with | mk x =>
  cases c with | mk y =>
  show (x == y) = _
  rw [Bool.eq_iff_iff]
  simp only [beq_iff_eq]
  exact ⟨fun e => by rw [e], fun e => Array.toList_inj.1 e⟩

theorem sameNow_eq {d : TypeDesc} {k e : Value} {b : Bool} (hf : keyFits d k = true) (h : sameKey k e = some b) {e' : Value} (r : VR ρ e e') :
    Instr.sameNow d k e' = some b ∧ (b = true → e' = k) := by
  unfold sameKey at h
  split at h
  · rename_i k1 a k2 c
    split at h
    · rename_i hk
      have hk : k1 = k2 := by simpa [kindEq] using hk
      subst hk
      simp only [Option.some.injEq] at h
      cases r
      cases d <;> simp [keyFits] at hf
      simp [Instr.sameNow, ← h, eqI_eq]
      exact fun e => e.symm
    · cases h
  · rename_i a c
    simp only [Option.some.injEq] at h
    cases r
    cases d <;> simp [keyFits] at hf
    have h1 : (a == c) = (a.data.toList == c.data.toList) := bytes_eq a c
    simp only [Instr.sameNow, h1, ← eqL_eq, h]
    refine ⟨trivial, fun hb => ?_⟩
    rw [hb, eqL_eq] at h
    congr 1
    exact (ByteArray.ext (Array.toList_inj.1 (beq_iff_eq.1 h))).symm
  · rename_i a c
    simp only [Option.some.injEq] at h
    cases r
    cases d <;> simp [keyFits] at hf
    simp [Instr.sameNow, ← h]
    exact fun e => e.symm
  · cases h

/-- what is found -/
inductive FoundR (ρ : Ren) (k : Value) (es es' : List MapEntry) (i0 : Nat) : Option (Nat × Value) → Option (Nat × Value) → Prop
  | none : FoundR ρ k es es' i0 none none
  | some {i : Nat} {v v' : Value} (hv : VR ρ v v') (hi : ∃ e', es'[i - i0]? = some e' ∧ e'.key = k) (hlt : i0 ≤ i ∧ i < i0 + es.length) : FoundR ρ k es es' i0 (some (i, v)) (some (i, v'))

theorem findNow_eq {d : TypeDesc} {k : Value} (hf : keyFits d k = true) : ∀ {es es' : List MapEntry}, EsR ρ es es' → ∀ (i : Nat) {r : Option (Nat × Value)}, findK k es i = some r →
    ∃ r', Instr.findNow d k es' i = some r' ∧ FoundR ρ k es es' i r r'
  | _, _, .nil, i, r, h => by simp only [findK, Option.some.injEq] at h; subst h; exact ⟨none, rfl, .none⟩
  | _, _, .cons (e := e) (e' := e') (l := l) (l' := l') hk hv hb t, i, r, h => by
    simp only [findK] at h
    split at h
    · rename_i hs
      obtain ⟨h1, h2⟩ := sameNow_eq hf hs hk
      cases h
      refine ⟨some (i, e'.val), by simp [Instr.findNow, h1], .some hv ⟨e', by simp, h2 rfl⟩ (by simp)⟩
    · rename_i hs
      obtain ⟨h1, _⟩ := sameNow_eq hf hs hk
      obtain ⟨r', h3, h4⟩ := findNow_eq hf t (i + 1) h
      refine ⟨r', by simp [Instr.findNow, h1, h3], ?_⟩
      cases h4 with
      | none => exact .none
      | some hv' hi hlt =>
        rename_i j v v'
        obtain ⟨x, hx, hkx⟩ := hi
        refine .some hv' ⟨x, ?_, hkx⟩ (by simp; omega)
        rw [show j - i = (j - (i + 1)) + 1 by omega]
        simpa using hx
    · cases h

theorem run_findKey {kt : TypeId} {d : TypeDesc} {k : Value} {es : List MapEntry} {r : Option (Nat × Value)} (hu : P.underlying kt = some d) (h : Instr.findNow d k es 0 = some r) :
    (Instr.findKey kt k es).run P w = .ok r w := by
  simp [Instr.findKey, run_underlying hu, h]

theorem run_checkKey {b : Bool} {kt : TypeId} {d : TypeDesc} {k : Value} (hu : P.underlying kt = some d) (hf : keyFits d k = true) : (Instr.checkKey b 10000 kt k).run P w = .ok () w := by
  have key : ∀ n, (Instr.checkKey b (n + 1) kt k).run P w = .ok () w := by
    intro n
    simp only [Instr.checkKey, Sem.run_bind, run_underlying hu, Result.andThen_ok]
    unfold keyFits at hf
    split at hf <;> first | rfl | cases hf
  exact key 9999

theorem map_of_vis {r : Nat} {es : List MapEntry} {c : Nat} (p : Pre B0 H s s' ρ G w) (hv : St.vis H s r = some (.map es c)) {l : Loc} (hl : ρ r = some l) :
    ∃ es' : Array MapEntry, w.heap[l.blk]? = some (.map es' c) ∧ EsR ρ es es'.toList := by
  obtain ⟨x, hx, es', rfl, h⟩ := p.sim.loc (p.sub r _ hv) hl
  exact ⟨es', hx, h⟩

theorem run_getMap {r : Nat} {es : Array MapEntry} {c : Nat} (h : w.heap[r]? = some (.map es c)) : (getObj r).run P w = .ok (.map es c) w := by
  show (Sem.getObj r .pure).run P w = _
  simp [Sem.run, h]

theorem s_lookup {xt kt et : TypeId} {kd : TypeDesc} {te : TI} {z : Value} {ok : Bool} {m m' k k' : Value} (h : doLookup H kd z ok m k s = .ok nx s') (hm : VR ρ m m') (hk : VR ρ k k') (p : Pre B0 H s s' ρ G w)
    (hu : P.underlying xt = some (.map kt et)) (hku : P.underlying kt = some kd) (he : tiOf P et = some te) (hz : te.zero = some z) (hg : ground z = true) :
    Done P B0 H s s' ρ G w nx (semV (Instr.lookup xt m' k' ok)) := by
  unfold doLookup at h
  obtain ⟨hf, h⟩ := brec_ok h
  have := keyFits_ground hf hk
  subst this
  split at h
  · -- nil
    cases hm
    have := ok_inj h
    obtain ⟨rfl, rfl⟩ := this
    have hrun : (Instr.lookup xt (.map none) k' ok).run P w = .ok (if ok = true then .tuple #[z, .bool false] else z) w := by
      simp only [Instr.lookup, Sem.run_bind, run_underlying hu, Result.andThen_ok, Sem.run_pure, run_checkKey hku hf]
      rw [run_findKey hku (by rfl : Instr.findNow kd k' [] 0 = some none)]
      simp only [Result.andThen_ok, Sem.run_bind, run_zeroValue he hz, Sem.run_pure]
    cases ok
    · exact done_same p hrun (ground_self hg)
    · exact done_same p hrun (.tuple (.cons (ground_self hg) (.cons (.bool false) .nil)))
  · rename_i r
    cases hm with
    | map hl =>
      rename_i l
      split at h
      · rename_i es c hv
        obtain ⟨es', h1, h2⟩ := map_of_vis p hv hl
        split at h
        · rename_i j v hfk
          have := ok_inj h
          obtain ⟨rfl, rfl⟩ := this
          obtain ⟨r', h3, h4⟩ := findNow_eq hf h2 0 hfk
          cases h4 with
          | some hv' hi hlt =>
            rename_i v'
            have hrun : (Instr.lookup xt (.map (some l.blk)) k' ok).run P w = .ok (if ok = true then .tuple #[v', .bool true] else v') w := by
              simp only [Instr.lookup, Sem.run_bind, run_underlying hu, Result.andThen_ok, Sem.run_pure, run_checkKey hku hf, run_getMap h1]
              rw [run_findKey hku h3]
              cases ok <;> simp
            cases ok
            · exact done_same p hrun hv'
            · exact done_same p hrun (.tuple (.cons hv' (.cons (.bool true) .nil)))
        · rename_i hfk
          have := ok_inj h
          obtain ⟨rfl, rfl⟩ := this
          obtain ⟨r', h3, h4⟩ := findNow_eq hf h2 0 hfk
          cases h4
          have hrun : (Instr.lookup xt (.map (some l.blk)) k' ok).run P w = .ok (if ok = true then .tuple #[z, .bool false] else z) w := by
            simp only [Instr.lookup, Sem.run_bind, run_underlying hu, Result.andThen_ok, Sem.run_pure, run_checkKey hku hf, run_getMap h1]
            rw [run_findKey hku h3]
            simp only [Result.andThen_ok, Sem.run_bind, run_zeroValue he hz, Sem.run_pure]
          cases ok
          · exact done_same p hrun (ground_self hg)
          · exact done_same p hrun (.tuple (.cons (ground_self hg) (.cons (.bool false) .nil)))
        · cases h
      · cases h
  · cases h

end Go.Ev
