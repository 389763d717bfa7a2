/- What the law SearchNil's domains read as: a row of values, each as long as the machine holds. -/
import Derived.Test.YtfoifipkehjncaaGreatDoorZSame
import Derived.SizedLaws
import Derived.Deep.Slices
set_option linter.unusedVariables false
set_option linter.unusedSimpArgs false
set_option linter.unusedVariables false
set_option linter.unusedSimpArgs false
namespace Go.Proofs.YtfoifipkehjncaaGreatDoor.PSearchNil
open Go.RowKit Go.Proofs.YtfoifipkehjncaaGreatDoorW.PrintWords Go.Proofs.YtfoifipkehjncaaGreatDoorW.PrintLast Go.Proofs.YtfoifipkehjncaaGreatDoorW.PrintMore Go.ChangeShapes Go.WideShapes

/-- What lies in the cells of a type reads as a value, within bounds. -/
def Opens (H : Type) (enc : TypeId × Value → H) {α : Type} (W : World) (t : TypeId) (d : Kd α) (Q : α → Prop) : Prop :=
  ∀ (fuel : Nat) (cs : List Value) (x : DataW H × List MemPlace), DataW.trod enc Tryz.prog W 0 (fun _ => true) true fuel t cs = some x → (∀ n ∈ x.1.weights Tryz.prog t, n ≤ reachBytes) → ∃ y, d.K W y cs ∧ Q y

section
variable {H : Type} {enc : TypeId × Value → H} {W : World}

theorem opens_int {t : TypeId} (ht : Tryz.prog.underlying t = some (.int .i64)) : Opens H enc W t (Kd.int .i64) (fun _ => True) := fun fuel cs x h _ => by
  obtain ⟨n, rfl, _, _⟩ := DataW.trod_int ht h
  exact ⟨n, rfl, trivial⟩

theorem opens_bool {t : TypeId} (ht : Tryz.prog.underlying t = some .bool) : Opens H enc W t Kd.bool (fun _ => True) := fun fuel cs x h _ => by
  obtain ⟨b, rfl, _⟩ := DataW.trod_bool ht h
  exact ⟨b, rfl, trivial⟩

theorem mem_weightsAll {P : Program} {e : TypeId} : ∀ {l : List (DataW H)} {d : DataW H}, d ∈ l → ∀ n ∈ d.weights P e, n ∈ DataW.weightsAll P e l
  | _ :: _, _, .head _, n, hn => by
    simp only [DataW.weightsAll, List.mem_append]
    exact .inl hn
  | _ :: l, d, .tail _ h, n, hn => by
    simp only [DataW.weightsAll, List.mem_append]
    exact .inr (mem_weightsAll h n hn)

theorem opens_slice {α : Type} (z : α) {d : Kd α} {Q : α → Prop} {t e : TypeId} (ht : Tryz.prog.underlying t = some (.slice e)) (hc : Tryz.prog.cellsOf e = d.sz) (he : Opens H enc W e d Q) :
    Opens H enc W t (Kd.slice e d) (fun xs => xs.length * Tryz.prog.bytesOf e ≤ reachBytes ∧ ∀ y ∈ xs, Q y) := fun fuel cs x h hw => by
  rcases Deep.open_slice ht h with ⟨rfl, rfl⟩ | ⟨a, len, cap, m, n, D, Pl, rfl, hb, hl, hm, hmm, rfl, hx⟩
  · exact ⟨[], ⟨none, 0, rfl, Nat.le_refl _, Kd.C_nil d W⟩, by simp, fun _ h => by cases h⟩
  · have hmc : m = cap := by simpa using hmm
    have hws : ∀ i, i < len → ∀ k ∈ (D i).weights Tryz.prog e, k ≤ reachBytes := fun i hi k hk => by
      refine hw k ?_
      simp only [DataW.weights, ht, List.mem_cons, List.mem_append]
      exact .inr (.inl (mem_weightsAll (List.mem_map.2 ⟨i, List.mem_range.2 hi, rfl⟩) k hk))
    have hlen : len * Tryz.prog.bytesOf e ≤ reachBytes := by
      have h1 := hw ((len + (m - len)) * Tryz.prog.bytesOf e) (by simp [DataW.weights, ht])
      exact Nat.le_trans (Nat.mul_le_mul_right _ (Nat.le_add_right _ _)) h1
    haveI : Inhabited α := ⟨z⟩
    have each : ∀ i, i < len → ∃ y : α, (∃ c, c.length = d.sz ∧ d.K W y c ∧ ∀ j u, c[j]? = some u → W.cell? (a.add (i * d.sz + j)) = some u) ∧ Q y := fun i hi => by
      obtain ⟨cs', h1, h2⟩ := hx i (by omega)
      obtain ⟨y, hy, hq⟩ := he n cs' _ h2 (hws i hi)
      rw [hc] at h1
      obtain ⟨_, hcl, hcell⟩ := World.cells?_some h1
      refine ⟨y, ⟨cs', hcl, hy, fun j u hu => ?_⟩, hq⟩
      have hj : j < d.sz := by rw [← hcl]; exact (List.getElem?_eq_some_iff.1 hu).1
      have := hcell j hj
      rw [Deep.add_add] at this
      rw [this, hu]
    obtain ⟨f, hf⟩ := Deep.choose_lt each
    refine ⟨(List.range len).map f, ⟨some a, cap, by simp, by simpa using hl, ⟨rfl, ?_, fun _ => ⟨a, rfl, fun j p hj => ?_⟩⟩⟩, by simpa using hlen, fun y hy => ?_⟩
    · have : cap ≤ 9223372036854775807 := hm
      simp; omega
    · obtain ⟨hj1, hj2⟩ := List.getElem?_eq_some_iff.1 hj
      have hjl : j < len := by simpa using hj1
      have hp : p = f j := by rw [← hj2]; simp
      rw [hp]
      obtain ⟨c, h1, h2, h3⟩ := (hf j hjl).1
      exact ⟨c, h1, h2, h3⟩
    · obtain ⟨i, hi, rfl⟩ := List.mem_map.1 hy
      exact (hf i (List.mem_range.1 hi)).2

theorem mem_weights_agg {t : TypeId} {fs : Array Field} (ht : Tryz.prog.underlying t = some (.struct fs)) {ds : List (DataW H)} {j : Nat} {f : Field} {d : DataW H} (hf : fs[j]? = some f) (hd : ds[j]? = some d) {k : Nat} (hk : k ∈ d.weights Tryz.prog f.type) : k ∈ (DataW.agg ds).weights Tryz.prog t := by
  simp only [DataW.weights, ht]
  exact DataW.weights_mem_each (by rw [List.getElem?_map, Array.getElem?_toList, hf]; rfl) hd k hk

theorem two_of {α : Type} : ∀ {l : List α}, l.length = 2 → ∃ a b, l = [a, b]
  | [a, b], _ => ⟨a, b, rfl⟩
theorem six_of {α : Type} : ∀ {l : List α}, l.length = 6 → ∃ a b c d e f, l = [a, b, c, d, e, f]
  | [a, b, c, d, e, f], _ => ⟨a, b, c, d, e, f, rfl⟩

theorem opens43 : Opens H enc W 43 k43 (fun _ => True) := fun fuel cs x h hw => by
  obtain ⟨xs, n, _, rfl, hl, hlen, hf⟩ := DataW.trod_struct Tryz.underlying43 h
  rw [show Tryz.prog.cellsOf 43 = 2 by kernel_rfl] at hl
  obtain ⟨y0, y1, rfl⟩ := two_of (show xs.length = 2 from hlen)
  obtain ⟨v0, v1, rfl⟩ := two_of hl
  · clear hl hlen
    have c2 : Tryz.prog.cellsOf 2 = 1 := by kernel_rfl
    have g0 : DataW.trod enc Tryz.prog W 0 (fun _ => true) true n 2 (([v0, v1].drop 0).take (Tryz.prog.cellsOf 2)) = some y0 := hf 0 _ rfl
    rw [c2] at g0
    have g1 : DataW.trod enc Tryz.prog W 0 (fun _ => true) true n 2 (([v0, v1].drop 1).take (Tryz.prog.cellsOf 2)) = some y1 := hf 1 _ rfl
    rw [c2] at g1
    obtain ⟨a0, k0, _⟩ := opens_int (H := H) (enc := enc) (W := W) Tryz.underlying2 n [v0] y0 g0 (fun k hk => hw k (mem_weights_agg Tryz.underlying43 (j := 0) (d := y0.1) rfl rfl hk))
    obtain ⟨a1, k1, _⟩ := opens_int (H := H) (enc := enc) (W := W) Tryz.underlying2 n [v1] y1 g1 (fun k hk => hw k (mem_weights_agg Tryz.underlying43 (j := 1) (d := y1.1) rfl rfl hk))
    exact ⟨⟨a0, a1⟩, ⟨[v0], [v1], rfl, k0, k1⟩, trivial⟩

theorem opens40 : Opens H enc W 40 k40 (fun p => p.f1.length * 16 ≤ reachBytes ∧ p.f2.length * 8 ≤ reachBytes ∧ p.f3.length * 8 ≤ reachBytes) := fun fuel cs x h hw => by
  obtain ⟨xs, n, _, rfl, hl, hlen, hf⟩ := DataW.trod_struct Tryz.underlying40 h
  rw [show Tryz.prog.cellsOf 40 = 6 by kernel_rfl] at hl
  obtain ⟨y0, y1, y2, y3, y4, y5, rfl⟩ := six_of (show xs.length = 6 from hlen)
  obtain ⟨v0, v1, v2, v3, v4, v5, rfl⟩ := six_of hl
  · clear hl hlen
    have c3 : Tryz.prog.cellsOf 3 = 1 := by kernel_rfl
    have c4 : Tryz.prog.cellsOf 4 = 1 := by kernel_rfl
    have c37 : Tryz.prog.cellsOf 37 = 1 := by kernel_rfl
    have c38 : Tryz.prog.cellsOf 38 = 1 := by kernel_rfl
    have b43 : Tryz.prog.bytesOf 43 = 16 := by kernel_rfl
    have b2 : Tryz.prog.bytesOf 2 = 8 := by kernel_rfl
    have g0 : DataW.trod enc Tryz.prog W 0 (fun _ => true) true n 4 (([v0, v1, v2, v3, v4, v5].drop 0).take (Tryz.prog.cellsOf 4)) = some y0 := hf 0 _ rfl
    rw [c4] at g0
    have g1 : DataW.trod enc Tryz.prog W 0 (fun _ => true) true n 37 (([v0, v1, v2, v3, v4, v5].drop 1).take (Tryz.prog.cellsOf 37)) = some y1 := hf 1 _ rfl
    rw [c37] at g1
    have g2 : DataW.trod enc Tryz.prog W 0 (fun _ => true) true n 38 (([v0, v1, v2, v3, v4, v5].drop 2).take (Tryz.prog.cellsOf 38)) = some y2 := hf 2 _ rfl
    rw [c38] at g2
    have g3 : DataW.trod enc Tryz.prog W 0 (fun _ => true) true n 38 (([v0, v1, v2, v3, v4, v5].drop 3).take (Tryz.prog.cellsOf 38)) = some y3 := hf 3 _ rfl
    rw [c38] at g3
    have g4 : DataW.trod enc Tryz.prog W 0 (fun _ => true) true n 3 (([v0, v1, v2, v3, v4, v5].drop 4).take (Tryz.prog.cellsOf 3)) = some y4 := hf 4 _ rfl
    rw [c3] at g4
    have g5 : DataW.trod enc Tryz.prog W 0 (fun _ => true) true n 3 (([v0, v1, v2, v3, v4, v5].drop 5).take (Tryz.prog.cellsOf 3)) = some y5 := hf 5 _ rfl
    rw [c3] at g5
    obtain ⟨a0, k0, _⟩ := opens_bool (H := H) (enc := enc) (W := W) Tryz.underlying4 n [v0] y0 g0 (fun k hk => hw k (mem_weights_agg Tryz.underlying40 (j := 0) (d := y0.1) rfl rfl hk))
    obtain ⟨a1, k1, q1⟩ := opens_slice z43 Tryz.underlying37 (show Tryz.prog.cellsOf 43 = k43.sz by kernel_rfl) opens43 n [v1] y1 g1 (fun k hk => hw k (mem_weights_agg Tryz.underlying40 (j := 1) (d := y1.1) rfl rfl hk))
    obtain ⟨a2, k2, q2⟩ := opens_slice (0 : Int) Tryz.underlying38 (show Tryz.prog.cellsOf 2 = (Kd.int .i64).sz by kernel_rfl) (opens_int Tryz.underlying2) n [v2] y2 g2 (fun k hk => hw k (mem_weights_agg Tryz.underlying40 (j := 2) (d := y2.1) rfl rfl hk))
    obtain ⟨a3, k3, q3⟩ := opens_slice (0 : Int) Tryz.underlying38 (show Tryz.prog.cellsOf 2 = (Kd.int .i64).sz by kernel_rfl) (opens_int Tryz.underlying2) n [v3] y3 g3 (fun k hk => hw k (mem_weights_agg Tryz.underlying40 (j := 3) (d := y3.1) rfl rfl hk))
    obtain ⟨a4, k4, _⟩ := opens_int (H := H) (enc := enc) (W := W) Tryz.underlying3 n [v4] y4 g4 (fun k hk => hw k (mem_weights_agg Tryz.underlying40 (j := 4) (d := y4.1) rfl rfl hk))
    obtain ⟨a5, k5, _⟩ := opens_int (H := H) (enc := enc) (W := W) Tryz.underlying3 n [v5] y5 g5 (fun k hk => hw k (mem_weights_agg Tryz.underlying40 (j := 5) (d := y5.1) rfl rfl hk))
    rw [b43] at q1
    rw [b2] at q2 q3
    exact ⟨⟨a0, a1, a2, a3, a4, a5⟩, ⟨[v0], [v1, v2, v3, v4, v5], rfl, k0, ⟨[v1], [v2, v3, v4, v5], rfl, k1, ⟨[v2], [v3, v4, v5], rfl, k2, ⟨[v3], [v4, v5], rfl, k3, ⟨[v4], [v5], rfl, k4, k5⟩⟩⟩⟩⟩, q1.1, q2.1, q3.1⟩

/-- The law's domains. -/
theorem opens22 {v : Value} {d : DataW H} {ps : List MemPlace} (h : DataW.Trod enc Tryz.prog W 0 (fun _ => true) true 22 v d ps) (hw : ∀ n ∈ d.weights Tryz.prog 22, n ≤ reachBytes) {A : Option Addr} {n c : Nat} (hv : v = .slice A n c) :
    ∃ l : List S40, n = l.length ∧ l.length ≤ c ∧ Kd.C k40 W A l.length l ∧ Small l := by
  obtain ⟨fuel, hf⟩ := h
  have b40 : Tryz.prog.bytesOf 40 = 96 := by kernel_rfl
  obtain ⟨l, ⟨A', c', e1, e2, e3⟩, q1, q2⟩ := opens_slice z40 Tryz.underlying22 (show Tryz.prog.cellsOf 40 = k40.sz by kernel_rfl) opens40 fuel _ _ hf hw
  subst hv
  simp only [Value.cells, List.cons.injEq, Value.slice.injEq, and_true] at e1
  obtain ⟨rfl, rfl, rfl⟩ := e1
  rw [b40] at q1
  have hrb : reachBytes = 140737488351232 := by decide
  rw [hrb] at q1
  refine ⟨l, rfl, e2, e3, by omega, fun i hi => ?_⟩
  have hm : l.getD i z40 ∈ l := by
    rw [List.getD_eq_getElem?_getD, List.getElem?_eq_getElem hi]
    exact List.getElem_mem hi
  have := q2 _ hm
  rw [hrb] at this
  omega
end
end Go.Proofs.YtfoifipkehjncaaGreatDoor.PSearchNil
