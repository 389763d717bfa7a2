/- How an abstract heap stands to the machine's. -/
import Derived.Test.YtgdadhopmfpkcaaGreatDoorEvTr
import Derived.Below
set_option linter.unusedVariables false
set_option linter.unusedSimpArgs false
namespace Go.Ev
open Go.RowKit

/-- where a block of the abstract heap lies: its block, the cell where it begins, and how many cells that block has -/
structure Loc where
  blk : Nat
  sh : Nat
  tot : Nat

abbrev Ren := Nat → Option Loc

mutual
inductive VR (ρ : Ren) : Value → Value → Prop
  | bool (b : Bool) : VR ρ (.bool b) (.bool b)
  | int (k : IntKind) (n : Int) : VR ρ (.int k n) (.int k n)
  | float (k : FloatKind) (n : Nat) : VR ρ (.float k n) (.float k n)
  | complex (k : FloatKind) (a b : Nat) : VR ρ (.complex k a b) (.complex k a b)
  | string (s : ByteArray) : VR ρ (.string s) (.string s)
  | ptrNil : VR ρ (.pointer none) (.pointer none)
  | ptr {b o : Nat} {l : Loc} (h : ρ b = some l) : VR ρ (.pointer (some ⟨b, o, none⟩)) (.pointer (some ⟨l.blk, l.sh + o, none⟩))
  | sliceNil (n c : Nat) : VR ρ (.slice none n c) (.slice none n c)
  | slice {b o o' n c : Nat} {l : Loc} (h : ρ b = some l) (ho : o' = l.sh + o ∨ c = 0) (hn : n ≤ c) : VR ρ (.slice (some ⟨b, o, none⟩) n c) (.slice (some ⟨l.blk, o', none⟩) n c)
  | sliceG {b o o' n c c' sz : Nat} {l : Loc} (h : ρ b = some l) (ho : o' = l.sh + o ∨ n = 0) (hn : n ≤ c') (ht : o' + c' * sz ≤ l.tot) :
      VR ρ (.slice (some ⟨b, o, some sz⟩) n c) (.slice (some ⟨l.blk, o', none⟩) n c')
  | mapNil : VR ρ (.map none) (.map none)
  | map {b : Nat} {l : Loc} (h : ρ b = some l) : VR ρ (.map (some b)) (.map (some l.blk))
  | chanNil : VR ρ (.chan none) (.chan none)
  | func {fn : Fn} {a a' c c' : Array Value} (hf : ∀ l, fn ≠ .yield l) (ha : VRs ρ a.toList a'.toList) (hc : VRs ρ c.toList c'.toList) : VR ρ (.func fn a c) (.func fn a' c')
  | nilFunc : VR ρ .nilFunc .nilFunc
  | iface {t : TypeId} {v v' : Value} (h : VR ρ v v') : VR ρ (.iface t v) (.iface t v')
  | nilIface : VR ρ .nilIface .nilIface
  | agg {a a' : Array Value} (h : VRs ρ a.toList a'.toList) : VR ρ (.agg a) (.agg a')
  | tuple {a a' : Array Value} (h : VRs ρ a.toList a'.toList) : VR ρ (.tuple a) (.tuple a')
inductive VRs (ρ : Ren) : List Value → List Value → Prop
  | nil : VRs ρ [] []
  | cons {v v' : Value} {l l' : List Value} (h : VR ρ v v') (t : VRs ρ l l') : VRs ρ (v :: l) (v' :: l')
end

def RenLe (ρ ρ' : Ren) : Prop := ∀ b l, ρ b = some l → ρ' b = some l

theorem RenLe.refl (ρ : Ren) : RenLe ρ ρ := fun _ _ h => h
theorem RenLe.trans {a b c : Ren} (h : RenLe a b) (k : RenLe b c) : RenLe a c := fun x l hx => k x l (h x l hx)

mutual
theorem VR.mono {ρ ρ' : Ren} (hρ : RenLe ρ ρ') : ∀ {v v' : Value}, VR ρ v v' → VR ρ' v v'
  | _, _, .bool b => .bool b
  | _, _, .int k n => .int k n
  | _, _, .float k n => .float k n
  | _, _, .complex k a b => .complex k a b
  | _, _, .string s => .string s
  | _, _, .ptrNil => .ptrNil
  | _, _, .ptr h => .ptr (hρ _ _ h)
  | _, _, .sliceNil n c => .sliceNil n c
  | _, _, .slice h ho hn => .slice (hρ _ _ h) ho hn
  | _, _, .sliceG h ho hn ht => .sliceG (hρ _ _ h) ho hn ht
  | _, _, .mapNil => .mapNil
  | _, _, .map h => .map (hρ _ _ h)
  | _, _, .chanNil => .chanNil
  | _, _, .func hf ha hc => .func hf (VRs.mono hρ ha) (VRs.mono hρ hc)
  | _, _, .nilFunc => .nilFunc
  | _, _, .iface h => .iface (VR.mono hρ h)
  | _, _, .nilIface => .nilIface
  | _, _, .agg h => .agg (VRs.mono hρ h)
  | _, _, .tuple h => .tuple (VRs.mono hρ h)
theorem VRs.mono {ρ ρ' : Ren} (hρ : RenLe ρ ρ') : ∀ {l l' : List Value}, VRs ρ l l' → VRs ρ' l l'
  | _, _, .nil => .nil
  | _, _, .cons h t => .cons (VR.mono hρ h) (VRs.mono hρ t)
end

theorem VRs.length {ρ : Ren} : ∀ {l l' : List Value}, VRs ρ l l' → l.length = l'.length
  | _, _, .nil => rfl
  | _, _, .cons _ t => by simp [VRs.length t]

theorem VRs.append {ρ : Ren} : ∀ {a a' : List Value}, VRs ρ a a' → ∀ {b b' : List Value}, VRs ρ b b' → VRs ρ (a ++ b) (a' ++ b')
  | _, _, .nil, _, _, h => h
  | _, _, .cons h t, _, _, k => .cons h (VRs.append t k)

theorem VRs.get {ρ : Ren} : ∀ {l l' : List Value}, VRs ρ l l' → ∀ {k : Nat} {v : Value}, l[k]? = some v → ∃ v', l'[k]? = some v' ∧ VR ρ v v'
  | _, _, .nil, k, v, h => by simp at h
  | _, _, .cons (v' := v') h t, 0, v, e => by simp at e; subst e; exact ⟨v', by simp, h⟩
  | _, _, .cons h t, k + 1, v, e => by
    simp only [List.getElem?_cons_succ] at e
    obtain ⟨w, hw, hr⟩ := VRs.get t e
    exact ⟨w, by simpa using hw, hr⟩

theorem VRs.of_get {ρ : Ren} : ∀ {l l' : List Value}, l.length = l'.length → (∀ (k : Nat) (v v' : Value), l[k]? = some v → l'[k]? = some v' → VR ρ v v') → VRs ρ l l'
  | [], [], _, _ => .nil
  | [], _ :: _, h, _ => by simp at h
  | _ :: _, [], h, _ => by simp at h
  | v :: l, v' :: l', h, k => .cons (k 0 v v' (by simp) (by simp)) (VRs.of_get (by simpa using h) fun i a b ha hb => k (i + 1) a b (by simpa using ha) (by simpa using hb))

theorem VRs.take {ρ : Ren} : ∀ {l l' : List Value}, VRs ρ l l' → ∀ n, VRs ρ (l.take n) (l'.take n)
  | _, _, .nil, n => by simp; exact .nil
  | _, _, .cons h t, 0 => by simp; exact .nil
  | _, _, .cons h t, n + 1 => by simp; exact .cons h (VRs.take t n)

theorem VRs.drop {ρ : Ren} : ∀ {l l' : List Value}, VRs ρ l l' → ∀ n, VRs ρ (l.drop n) (l'.drop n)
  | _, _, .nil, n => by simp; exact .nil
  | _, _, .cons h t, 0 => by simp; exact .cons h t
  | _, _, .cons h t, n + 1 => by simp; exact VRs.drop t n

/- values without addresses -/
theorem all_ground {ρ : Ren} {n : Nat} (ih : ∀ v, groundF n v = true → (∀ v', VR ρ v v' → v' = v) ∧ VR ρ v v) :
    ∀ l : List Value, l.all (groundF n) = true → (∀ l', VRs ρ l l' → l' = l) ∧ VRs ρ l l
  | [], _ => ⟨fun l' h => by cases h; rfl, .nil⟩
  | v :: l, h => by
    simp only [List.all_cons, Bool.and_eq_true] at h
    obtain ⟨h1, h2⟩ := ih v h.1
    obtain ⟨h3, h4⟩ := all_ground ih l h.2
    exact ⟨fun l' hl => by cases hl with | cons a t => rw [h1 _ a, h3 _ t], .cons h2 h4⟩

theorem arr_eq {α : Type} {a b : Array α} (h : a.toList = b.toList) : a = b := Array.toList_inj.1 h

theorem groundF_spec {ρ : Ren} : ∀ (n : Nat) (v : Value), groundF n v = true → (∀ v', VR ρ v v' → v' = v) ∧ VR ρ v v := by
  intro n
  induction n with
  | zero => intro v h; simp [groundF] at h
  | succ n ih =>
    intro v h
    cases v with
    | bool b => exact ⟨fun v' h => by cases h; rfl, .bool b⟩
    | int k m => exact ⟨fun v' h => by cases h; rfl, .int k m⟩
    | float k m => exact ⟨fun v' h => by cases h; rfl, .float k m⟩
    | complex k a b => exact ⟨fun v' h => by cases h; rfl, .complex k a b⟩
    | string s => exact ⟨fun v' h => by cases h; rfl, .string s⟩
    | nilFunc => exact ⟨fun v' h => by cases h; rfl, .nilFunc⟩
    | nilIface => exact ⟨fun v' h => by cases h; rfl, .nilIface⟩
    | pointer a => cases a with
      | none => exact ⟨fun v' h => by cases h; rfl, .ptrNil⟩
      | some a => simp [groundF] at h
    | slice a m c => cases a with
      | none => exact ⟨fun v' h => by cases h; rfl, .sliceNil m c⟩
      | some a => simp [groundF] at h
    | map r => cases r with
      | none => exact ⟨fun v' h => by cases h; rfl, .mapNil⟩
      | some a => simp [groundF] at h
    | chan r => cases r with
      | none => exact ⟨fun v' h => by cases h; rfl, .chanNil⟩
      | some a => simp [groundF] at h
    | iface t v =>
      obtain ⟨h1, h2⟩ := ih v (by simpa [groundF] using h)
      exact ⟨fun v' h => by cases h with | iface a => rw [h1 _ a], .iface h2⟩
    | agg cs =>
      obtain ⟨h1, h2⟩ := all_ground ih cs.toList (by simpa [groundF] using h)
      exact ⟨fun v' h => by cases h with | agg a => rw [arr_eq (h1 _ a)], .agg h2⟩
    | tuple cs =>
      obtain ⟨h1, h2⟩ := all_ground ih cs.toList (by simpa [groundF] using h)
      exact ⟨fun v' h => by cases h with | tuple a => rw [arr_eq (h1 _ a)], .tuple h2⟩
    | func fn a c =>
      unfold groundF at h
      simp only [Bool.and_eq_true] at h
      obtain ⟨⟨hf, ha⟩, hc⟩ := h
      obtain ⟨h1, h2⟩ := all_ground ih a.toList ha
      obtain ⟨h3, h4⟩ := all_ground ih c.toList hc
      have hy : ∀ l, fn ≠ .yield l := fun l e => by rw [e] at hf; cases hf
      exact ⟨fun v' h => by cases h with | func _ x y => rw [arr_eq (h1 _ x), arr_eq (h3 _ y)], .func hy h2 h4⟩

theorem ground_eq {ρ : Ren} {v v' : Value} (h : ground v = true) (r : VR ρ v v') : v' = v := (groundF_spec 8 v h).1 v' r
theorem ground_self {ρ : Ren} {v : Value} (h : ground v = true) : VR ρ v v := (groundF_spec 8 v h).2

/- objects -/
inductive EsR (ρ : Ren) : List MapEntry → List MapEntry → Prop
  | nil : EsR ρ [] []
  | cons {e e' : MapEntry} {l l' : List MapEntry} (hk : VR ρ e.key e'.key) (hv : VR ρ e.val e'.val) (hb : e.born = e'.born) (t : EsR ρ l l') : EsR ρ (e :: l) (e' :: l')

def ObjR (ρ : Ren) (l : Loc) : AObj → Obj → Prop
  | .cells c n _, o => ∃ (C : Array Value) (e' : TypeId) (fz : Nat × Nat), o = .cells C e' fz ∧ C.size = l.tot ∧ l.sh + n ≤ l.tot ∧
      (∀ k, k < l.tot → ¬ (fz.1 ≤ k ∧ k < fz.2)) ∧ ∀ k v, c.get k = some v → k < n ∧ ∃ v', C[l.sh + k]? = some v' ∧ VR ρ v v'
  | .map es ck, o => ∃ es' : Array MapEntry, o = .map es' ck ∧ EsR ρ es es'.toList
  | .loop r, o => ∃ r' : Loop, o = .loop r' ∧ r'.state = r.state ∧ r'.pending = r.pending ∧ r'.fn = r.fn ∧ r'.params = r.params ∧ r'.assign = r.assign ∧ r'.body = r.body ∧
      VRs ρ r.tmps.toList r'.tmps.toList ∧ ∃ l, ρ r.defers = some l ∧ r'.defers = l.blk
  | .marks t, o => o = .deferred (if t then none else some [])

theorem EsR.mono {ρ ρ' : Ren} (hρ : RenLe ρ ρ') : ∀ {l l' : List MapEntry}, EsR ρ l l' → EsR ρ' l l'
  | _, _, .nil => .nil
  | _, _, .cons hk hv hb t => .cons (hk.mono hρ) (hv.mono hρ) hb (EsR.mono hρ t)

theorem ObjR.mono {ρ ρ' : Ren} (hρ : RenLe ρ ρ') {l : Loc} {a : AObj} {o : Obj} (h : ObjR ρ l a o) : ObjR ρ' l a o := by
  cases a with
  | cells c n e =>
    obtain ⟨C, e', fz, h1, h2, h3, h4, h5⟩ := h
    exact ⟨C, e', fz, h1, h2, h3, h4, fun k v hk => let ⟨a, v', b, r⟩ := h5 k v hk; ⟨a, v', b, r.mono hρ⟩⟩
  | map es ck => obtain ⟨es', h1, h2⟩ := h; exact ⟨es', h1, h2.mono hρ⟩
  | loop r =>
    obtain ⟨r', h1, h2, h3, h4, h5, h6, h7, h8, l, h9, h10⟩ := h
    exact ⟨r', h1, h2, h3, h4, h5, h6, h7, h8.mono hρ, l, hρ _ _ h9, h10⟩
  | marks t => exact h

/-- an abstract heap, as a function -/
abbrev Hp := Nat → Option AObj

/-- where a run begins: its blocks are from here on; and what holds of every world between, for it rests on what lies below -/
structure Base where
  n : Nat
  inv : World → Prop
  keep : ∀ w w', inv w → Below n w w' → inv w'

instance : Coe Base Nat := ⟨Base.n⟩

structure Sim (B0 : Base) (ρ : Ren) (G : Hp) (w : World) : Prop where
  obj : ∀ b o, G b = some o → ∃ l, ρ b = some l ∧ ∃ x, w.heap[l.blk]? = some x ∧ ObjR ρ l o x
  inj : ∀ b b' l l', G b ≠ none → G b' ≠ none → ρ b = some l → ρ b' = some l' → l.blk = l'.blk → b = b'
  own : ∀ b l, ρ b = some l → B0 ≤ l.blk ∧ l.blk < w.heap.size
  base : B0 ≤ w.heap.size
  inv : B0.inv w

/-- what is seen of a state lies in a heap -/
def Sub (H : Hid) (s : St) (G : Hp) : Prop := ∀ x o, St.vis H s x = some o → G x = some o

/-- a heap behind a run from s to s' -/
noncomputable def upd (G : Hp) (H : Hid) (s s' : St) : Hp := fun x =>
  if s.next ≤ x ∧ x < s'.next then s'.heap.get x else if St.vis H s x = none then G x else s'.heap.get x

/-- what a run from s to s' leaves alone, and tells -/
structure Fr (H : Hid) (s s' : St) : Prop where
  next : s.next ≤ s'.next
  out : ∀ x, St.vis H s x = none → ¬ (s.next ≤ x ∧ x < s'.next) → s'.heap.get x = s.heap.get x
  log : ∀ x, x < s.next → s'.heap.get x ≠ s.heap.get x → x ∈ s'.log
  sub : ∀ x, x ∈ s.log → x ∈ s'.log
  dom : (∀ x, s.next ≤ x → s.heap.get x = none) → ∀ x, s'.next ≤ x → s'.heap.get x = none

theorem Fr.refl (H : Hid) (s : St) : Fr H s s := ⟨Nat.le_refl _, fun _ _ _ => rfl, fun _ _ h => absurd rfl h, fun _ h => h, fun h => h⟩

theorem vis_none_iff {H : Hid} {s : St} {x : Nat} : St.vis H s x = none ↔ hidden H x = true ∨ s.heap.get x = none := by
  rw [vis_eq]; by_cases h : hidden H x = true <;> simp [h]

theorem vis_some_iff {H : Hid} {s : St} {x : Nat} {o : AObj} : St.vis H s x = some o ↔ hidden H x = false ∧ s.heap.get x = some o := by
  rw [vis_eq]; by_cases h : hidden H x = true <;> simp [h]

theorem Fr.vis_none {H : Hid} {s s' : St} (f : Fr H s s') {x : Nat} (h : St.vis H s x = none) (hx : ¬ (s.next ≤ x ∧ x < s'.next)) : St.vis H s' x = none := by
  have := f.out x h hx
  rw [vis_eq] at h ⊢
  by_cases e : hidden H x = true
  · simp [e]
  · simp only [e] at h ⊢; rw [this]; exact h

theorem Fr.trans {H : Hid} {s s1 s2 : St} (f : Fr H s s1) (g : Fr H s1 s2) : Fr H s s2 := {
  next := Nat.le_trans f.next g.next
  out x h hx := by
    have h1 : ¬ (s.next ≤ x ∧ x < s1.next) := fun e => hx ⟨e.1, Nat.lt_of_lt_of_le e.2 g.next⟩
    have h2 : ¬ (s1.next ≤ x ∧ x < s2.next) := fun e => hx ⟨Nat.le_trans f.next e.1, e.2⟩
    rw [g.out x (f.vis_none h h1) h2, f.out x h h1]
  log x hx h := by
    by_cases e : s1.heap.get x = s.heap.get x
    · exact g.log x (Nat.lt_of_lt_of_le hx f.next) (by rw [e]; exact h)
    · exact g.sub x (f.log x hx e)
  sub x h := g.sub x (f.sub x h)
  dom h := g.dom (f.dom h) }

theorem upd_refl (G : Hp) (H : Hid) (s : St) (h : Sub H s G) : upd G H s s = G := by
  funext x
  unfold upd
  rw [if_neg (by omega)]
  split
  · rfl
  · rename_i hv
    cases hh : St.vis H s x with
    | none => exact absurd hh hv
    | some o => rw [h x o hh]; exact (vis_some_iff.1 hh).2

theorem upd_upd (G : Hp) {H : Hid} {s s1 s2 : St} (f : Fr H s s1) (g : Fr H s1 s2) : upd (upd G H s s1) H s1 s2 = upd G H s s2 := by
  funext x
  have n1 := f.next
  have n2 := g.next
  unfold upd
  by_cases a : s.next ≤ x ∧ x < s1.next
  · rw [if_neg (show ¬ (s1.next ≤ x ∧ x < s2.next) by omega), if_pos a, if_pos (show s.next ≤ x ∧ x < s2.next by omega)]
    by_cases hv : St.vis H s1 x = none
    · rw [if_pos hv, g.out x hv (by omega)]
    · rw [if_neg hv]
  · by_cases b : s1.next ≤ x ∧ x < s2.next
    · rw [if_pos b, if_pos (show s.next ≤ x ∧ x < s2.next by omega)]
    · rw [if_neg b, if_neg (show ¬ (s.next ≤ x ∧ x < s2.next) by omega), if_neg a]
      by_cases hv : St.vis H s x = none
      · simp only [hv, f.vis_none hv a, if_true]
      · simp only [hv, if_false]
        by_cases hv1 : St.vis H s1 x = none
        · rw [if_pos hv1, g.out x hv1 b]
        · rw [if_neg hv1]

theorem sub_upd {G : Hp} {H : Hid} {s s' : St} (f : Fr H s s') : Sub H s' (upd G H s s') := by
  intro x o hx
  obtain ⟨h1, h2⟩ := vis_some_iff.1 hx
  unfold upd
  by_cases a : s.next ≤ x ∧ x < s'.next
  · rw [if_pos a]; exact h2
  · rw [if_neg a]
    by_cases hv : St.vis H s x = none
    · rw [f.vis_none hv a] at hx; cases hx
    · rw [if_neg hv]; exact h2

/-- what is asked ahead of a run from s to s' -/
structure Pre (B0 : Base) (H : Hid) (s s' : St) (ρ : Ren) (G : Hp) (w : World) : Prop where
  sub : Sub H s G
  wf : ∀ x, s.next ≤ x → s.heap.get x = none
  fresh : ∀ x, s.next ≤ x → x < s'.next → ρ x = none
  sim : Sim B0 ρ G w

/-- what is known behind it -/
structure Post (B0 : Base) (H : Hid) (s s' : St) (ρ ρ' : Ren) (G : Hp) (w w' : World) : Prop where
  ext : RenLe ρ ρ'
  new : ∀ x, ρ x = none → ρ' x ≠ none → s.next ≤ x ∧ x < s'.next
  sim : Sim B0 ρ' (upd G H s s') w'
  below : Below B0 w w'
  fr : Fr H s s'

theorem Post.refl {B0 : Base} {H : Hid} {s : St} {ρ : Ren} {G : Hp} {w : World} (h : Sub H s G) (hs : Sim B0 ρ G w) : Post B0 H s s ρ ρ G w w :=
  ⟨.refl _, fun x a b => absurd a b, by rw [upd_refl G H s h]; exact hs, .refl _ _, .refl _ _⟩

theorem Post.trans {B0 : Base} {H : Hid} {s s1 s2 : St} {ρ ρ1 ρ2 : Ren} {G : Hp} {w w1 w2 : World} (a : Post B0 H s s1 ρ ρ1 G w w1) (b : Post B0 H s1 s2 ρ1 ρ2 (upd G H s s1) w1 w2) :
    Post B0 H s s2 ρ ρ2 G w w2 := {
  ext := a.ext.trans b.ext
  new x h h2 := by
    have n1 := a.fr.next
    have n2 := b.fr.next
    cases h1 : ρ1 x with
    | none => have := b.new x h1 h2; omega
    | some l => have := a.new x h (by rw [h1]; simp); omega
  sim := by rw [← upd_upd G a.fr b.fr]; exact b.sim
  below := a.below.trans b.below
  fr := a.fr.trans b.fr }

theorem Pre.first {B0 : Base} {H : Hid} {s s1 s2 : St} {ρ : Ren} {G : Hp} {w : World} (p : Pre B0 H s s2 ρ G w) (h : s1.next ≤ s2.next) : Pre B0 H s s1 ρ G w :=
  ⟨p.sub, p.wf, fun x a b => p.fresh x a (Nat.lt_of_lt_of_le b h), p.sim⟩

theorem Pre.next {B0 : Base} {H : Hid} {s s1 s2 : St} {ρ ρ1 : Ren} {G : Hp} {w w1 : World} (p : Pre B0 H s s2 ρ G w) (a : Post B0 H s s1 ρ ρ1 G w w1) : Pre B0 H s1 s2 ρ1 (upd G H s s1) w1 := {
  sub := sub_upd a.fr
  wf := a.fr.dom p.wf
  fresh x h1 h2 := by
    have n1 := a.fr.next
    cases h : ρ1 x with
    | none => rfl
    | some l => have := a.new x (p.fresh x (by omega) h2) (by rw [h]; simp); omega
  sim := a.sim }

/- the three ways in which an operation turns a heap -/
theorem Fr.new (H : Hid) (s : St) (o : AObj) : Fr H s (newObj s o) := {
  next := Nat.le_succ _
  out x _ hx := by
    show (s.heap.set s.next (some o)).get x = _
    have : ¬ x = s.next := fun e => hx ⟨by omega, by show x < s.next + 1; omega⟩
    rw [Tr.get_set, if_neg this]
  log x hx h := by
    refine absurd ?_ h
    show (s.heap.set s.next (some o)).get x = _
    rw [Tr.get_set, if_neg (by omega)]
  sub x h := h
  dom h x hx := by
    have hx : s.next + 1 ≤ x := hx
    show (s.heap.set s.next (some o)).get x = _
    rw [Tr.get_set, if_neg (by omega)]
    exact h x (by omega) }

theorem Fr.set {H : Hid} {s : St} {b : Nat} {o : AObj} (hb : St.vis H s b = some o) (o' : Option AObj) : Fr H s (setObj s b o') := {
  next := Nat.le_refl _
  out x hx _ := by
    show (s.heap.set b o').get x = _
    have : ¬ x = b := fun e => by rw [e, hb] at hx; cases hx
    rw [Tr.get_set, if_neg this]
  log x hx h := by
    by_cases e : x = b
    · subst e; exact List.mem_cons_self ..
    · refine absurd ?_ h
      show (s.heap.set b o').get x = _
      rw [Tr.get_set, if_neg e]
  sub x h := List.mem_cons_of_mem _ h
  dom h x hx := by
    have hx : s.next ≤ x := hx
    show (s.heap.set b o').get x = _
    have : ¬ x = b := fun e => by have h1 := (vis_some_iff.1 hb).2; rw [← e, h x hx] at h1; cases h1
    rw [Tr.get_set, if_neg this]
    exact h x hx }

theorem upd_new (G : Hp) (H : Hid) (s : St) (o : AObj) (h : Sub H s G) : upd G H s (newObj s o) = fun x => if x = s.next then some o else G x := by
  funext x
  unfold upd
  have hn : (newObj s o).next = s.next + 1 := rfl
  have hg : ∀ y, (newObj s o).heap.get y = if y = s.next then some o else s.heap.get y := fun y => Tr.get_set _ _ _ _
  rw [hn, hg]
  by_cases e : x = s.next
  · rw [if_pos (by omega), if_pos e, if_pos e]
  · rw [if_neg (by omega), if_neg e, if_neg e]
    split
    · rfl
    · rename_i hv
      cases hh : St.vis H s x with
      | none => exact absurd hh hv
      | some o' => rw [h x o' hh]; exact (vis_some_iff.1 hh).2

theorem upd_set (G : Hp) {H : Hid} {s : St} {b : Nat} {o : AObj} (hb : St.vis H s b = some o) (o' : Option AObj) (h : Sub H s G) :
    upd G H s (setObj s b o') = fun x => if x = b then o' else G x := by
  funext x
  unfold upd
  have hn : (setObj s b o').next = s.next := rfl
  have hg : ∀ y, (setObj s b o').heap.get y = if y = b then o' else s.heap.get y := fun y => Tr.get_set _ _ _ _
  rw [hn, hg, if_neg (by omega)]
  by_cases e : x = b
  · subst e; rw [hb]; simp
  · rw [if_neg e, if_neg e]
    split
    · rfl
    · rename_i hv
      cases hh : St.vis H s x with
      | none => exact absurd hh hv
      | some o' => rw [h x o' hh]; exact (vis_some_iff.1 hh).2

noncomputable def Ren.put (ρ : Ren) (b : Nat) (l : Loc) : Ren := fun x => if x = b then some l else ρ x

theorem Ren.le_put {ρ : Ren} {b : Nat} {l : Loc} (h : ρ b = none) : RenLe ρ (ρ.put b l) := by
  intro x k hx
  unfold Ren.put
  by_cases e : x = b
  · subst e; rw [h] at hx; cases hx
  · rw [if_neg e]; exact hx

theorem Ren.put_same {ρ : Ren} {b : Nat} {l : Loc} : (ρ.put b l) b = some l := by simp [Ren.put]

theorem Ren.put_new {ρ : Ren} {b x : Nat} {l : Loc} (h : ρ x = none) (h2 : (ρ.put b l) x ≠ none) : x = b := by
  by_cases e : x = b
  · exact e
  · exfalso; apply h2; simp [Ren.put, e, h]

/-- a world that is as it was, but for one block -/
structure One (k : Nat) (w w' : World) : Prop where
  os : w'.os = w.os
  tape : w'.tape = w.tape
  output : w'.output = w.output
  size : w'.heap.size = w.heap.size
  other : ∀ j, j ≠ k → w'.heap[j]? = w.heap[j]?

theorem One.below {k : Nat} {B0 : Base} {w w' : World} (h : One k w w') (hB : B0 ≤ k) : Below B0 w w' :=
  ⟨h.os, h.tape, h.output, by rw [h.size]; exact Nat.le_refl _, fun j hj => h.other j (by omega)⟩

theorem Sim.loc {B0 : Base} {ρ : Ren} {G : Hp} {w : World} (h : Sim B0 ρ G w) {b : Nat} {o : AObj} {l : Loc} (hb : G b = some o) (hl : ρ b = some l) :
    ∃ x, w.heap[l.blk]? = some x ∧ ObjR ρ l o x := by
  obtain ⟨l', h1, x, h2, h3⟩ := h.obj b o hb
  rw [hl] at h1; cases h1
  exact ⟨x, h2, h3⟩

theorem Post.new' {B0 : Base} {H : Hid} {s : St} {ρ : Ren} {G : Hp} {w : World} {o : AObj} {obj : Obj} (tot : Nat) (p : Pre B0 H s (newObj s o) ρ G w)
    (ho : ObjR (ρ.put s.next ⟨w.heap.size, 0, tot⟩) ⟨w.heap.size, 0, tot⟩ o obj) :
    Post B0 H s (newObj s o) ρ (ρ.put s.next ⟨w.heap.size, 0, tot⟩) G w { w with heap := w.heap.push obj } := by
  have hn : ρ s.next = none := p.fresh s.next (Nat.le_refl _) (Nat.lt_succ_self _)
  have hle := Ren.le_put (l := ⟨w.heap.size, 0, tot⟩) hn
  have hold : ∀ k, k < w.heap.size → (w.heap.push obj)[k]? = w.heap[k]? := fun k hk => by rw [Array.getElem?_push, if_neg (by omega)]
  have hbel : Below B0 w { w with heap := w.heap.push obj } := ⟨rfl, rfl, rfl, by simp, fun k hk => hold k (Nat.lt_of_lt_of_le hk p.sim.base)⟩
  refine ⟨hle, fun x a b => ?_, ⟨?_, ?_, ?_, ?_, B0.keep _ _ p.sim.inv hbel⟩, hbel, Fr.new H s o⟩
  · have := Ren.put_new a b; subst this; exact ⟨Nat.le_refl _, Nat.lt_succ_self _⟩
  · intro b o' hb
    rw [upd_new G H s o p.sub] at hb
    by_cases e : b = s.next
    · subst e
      simp only [if_true] at hb
      cases hb
      exact ⟨_, Ren.put_same, obj, by simp, ho⟩
    · simp only [e, if_false] at hb
      obtain ⟨l, h1, x, h2, h3⟩ := p.sim.obj b o' hb
      exact ⟨l, hle _ _ h1, x, by rw [hold _ (p.sim.own b l h1).2]; exact h2, h3.mono hle⟩
  · intro b b' l l' hb hb' hl hl' e
    rw [upd_new G H s o p.sub] at hb hb'
    by_cases e1 : b = s.next
    · by_cases e2 : b' = s.next
      · rw [e1, e2]
      · exfalso
        subst e1
        rw [Ren.put_same] at hl; cases hl
        have : ρ b' = some l' := by simpa [Ren.put, e2] using hl'
        have := (p.sim.own b' l' this).2
        simp only at e; omega
    · by_cases e2 : b' = s.next
      · exfalso
        subst e2
        rw [Ren.put_same] at hl'; cases hl'
        have : ρ b = some l := by simpa [Ren.put, e1] using hl
        have := (p.sim.own b l this).2
        simp only at e; omega
      · simp only [e1, e2, if_false] at hb hb'
        exact p.sim.inj b b' l l' hb hb' (by simpa [Ren.put, e1] using hl) (by simpa [Ren.put, e2] using hl') e
  · intro b l hl
    by_cases e1 : b = s.next
    · subst e1; rw [Ren.put_same] at hl; cases hl; exact ⟨p.sim.base, by simp⟩
    · have := p.sim.own b l (by simpa [Ren.put, e1] using hl); exact ⟨this.1, by simp; omega⟩
  · have := p.sim.base; simp; omega

theorem Post.set' {B0 : Base} {H : Hid} {s : St} {ρ : Ren} {G : Hp} {w w' : World} {b : Nat} {l : Loc} {o o' : AObj} {x : Obj}
    (p : Pre B0 H s (setObj s b (some o')) ρ G w) (hb : St.vis H s b = some o) (hl : ρ b = some l)
    (hw : One l.blk w w') (hx : w'.heap[l.blk]? = some x) (ho : ObjR ρ l o' x) : Post B0 H s (setObj s b (some o')) ρ ρ G w w' := by
  have hu := upd_set G hb (some o') p.sub
  have hG := p.sub b o hb
  refine ⟨.refl _, fun x a c => absurd a c, ⟨?_, ?_, ?_, ?_, B0.keep _ _ p.sim.inv (hw.below (p.sim.own b l hl).1)⟩, hw.below (p.sim.own b l hl).1, Fr.set hb _⟩
  · intro c oc hc
    rw [hu] at hc
    by_cases e : c = b
    · subst e; simp only [if_true] at hc; cases hc; exact ⟨l, hl, x, hx, ho⟩
    · simp only [e, if_false] at hc
      obtain ⟨lc, h1, y, h2, h3⟩ := p.sim.obj c oc hc
      refine ⟨lc, h1, y, ?_, h3⟩
      rw [hw.other _ (fun k => e (p.sim.inj c b lc l (by rw [hc]; simp) (by rw [hG]; simp) h1 hl k))]
      exact h2
  · intro c c' lc lc' hc hc' h1 h2 e
    rw [hu] at hc hc'
    refine p.sim.inj c c' lc lc' ?_ ?_ h1 h2 e
    · by_cases k : c = b
      · subst k; rw [hG]; simp
      · simpa only [k, if_false] using hc
    · by_cases k : c' = b
      · subst k; rw [hG]; simp
      · simpa only [k, if_false] using hc'
  · intro c lc h; rw [hw.size]; exact p.sim.own c lc h
  · rw [hw.size]; exact p.sim.base

/-- an append to a slice of unknown capacity: the old block is dead; where it was in place, the new one lies where it lay -/
theorem Post.move {B0 : Base} {H : Hid} {s : St} {ρ : Ren} {G : Hp} {w w' : World} {b : Nat} {l l' : Loc} {o o' : AObj} {x : Obj}
    (p : Pre B0 H s (newObj (setObj s b none) o') ρ G w) (hb : St.vis H s b = some o) (hl : ρ b = some l) (hl' : l'.blk = l.blk)
    (hw : One l.blk w w') (hx : w'.heap[l.blk]? = some x) (ho : ObjR (ρ.put s.next l') l' o' x) :
    Post B0 H s (newObj (setObj s b none) o') ρ (ρ.put s.next l') G w w' := by
  have hn : ρ s.next = none := p.fresh s.next (Nat.le_refl _) (Nat.lt_succ_self _)
  have hle := Ren.le_put (l := l') hn
  have f1 : Fr H s (setObj s b none) := Fr.set hb none
  have hu : upd G H s (newObj (setObj s b none) o') = fun x => if x = s.next then some o' else if x = b then none else G x := by
    rw [← upd_upd G f1 (Fr.new H (setObj s b none) o'), upd_new _ H (setObj s b none) o' (sub_upd f1), upd_set G hb none p.sub]
    rfl
  have hG := p.sub b o hb
  refine ⟨hle, fun x a c => ?_, ⟨?_, ?_, ?_, ?_, B0.keep _ _ p.sim.inv (hw.below (p.sim.own b l hl).1)⟩, hw.below (p.sim.own b l hl).1, f1.trans (Fr.new H _ o')⟩
  · have := Ren.put_new a c; subst this; exact ⟨Nat.le_refl _, Nat.lt_succ_self _⟩
  · intro c oc hc
    rw [hu] at hc
    by_cases e : c = s.next
    · subst e; simp only [if_true] at hc; cases hc; exact ⟨l', Ren.put_same, x, by rw [hl']; exact hx, ho⟩
    · simp only [e, if_false] at hc
      by_cases e2 : c = b
      · simp only [e2, if_true] at hc; cases hc
      · simp only [e2, if_false] at hc
        obtain ⟨lc, h1, y, h2, h3⟩ := p.sim.obj c oc hc
        refine ⟨lc, hle _ _ h1, y, ?_, h3.mono hle⟩
        rw [hw.other _ (fun k => e2 (p.sim.inj c b lc l (by rw [hc]; simp) (by rw [hG]; simp) h1 hl k))]
        exact h2
  · intro c c' lc lc' hc hc' h1 h2 e
    rw [hu] at hc hc'
    have key : ∀ d ld, (if d = s.next then some o' else if d = b then none else G d) ≠ none → (ρ.put s.next l') d = some ld → d ≠ s.next → ρ d = some ld ∧ G d ≠ none ∧ ld.blk ≠ l.blk := by
      intro d ld hd hld hne
      simp only [hne, if_false] at hd
      have hρ : ρ d = some ld := by simpa [Ren.put, hne] using hld
      by_cases e2 : d = b
      · simp only [e2, if_true] at hd; exact absurd rfl hd
      · simp only [e2, if_false] at hd
        exact ⟨hρ, hd, fun k => e2 (p.sim.inj d b ld l hd (by rw [hG]; simp) hρ hl k)⟩
    by_cases e1 : c = s.next
    · by_cases e2 : c' = s.next
      · rw [e1, e2]
      · exfalso
        have := (key c' lc' hc' h2 e2).2.2
        subst e1; rw [Ren.put_same] at h1; cases h1
        rw [hl'] at e; exact this e.symm
    · by_cases e2 : c' = s.next
      · exfalso
        have := (key c lc hc h1 e1).2.2
        subst e2; rw [Ren.put_same] at h2; cases h2
        rw [hl'] at e; exact this e
      · obtain ⟨a1, a2, _⟩ := key c lc hc h1 e1
        obtain ⟨b1, b2, _⟩ := key c' lc' hc' h2 e2
        exact p.sim.inj c c' lc lc' a2 b2 a1 b1 e
  · intro c lc h
    rw [hw.size]
    by_cases e1 : c = s.next
    · subst e1; rw [Ren.put_same] at h; cases h; rw [hl']; exact p.sim.own b l hl
    · exact p.sim.own c lc (by simpa [Ren.put, e1] using h)
  · rw [hw.size]; exact p.sim.base

/-- a draw turns nothing -/
theorem Sim.drawn {B0 : Base} {ρ : Ren} {G : Hp} {w : World} (h : Sim B0 ρ G w) (n : Nat) : Sim B0 ρ G { w with drawn := n } :=
  ⟨h.obj, h.inj, h.own, h.base, B0.keep _ _ h.inv ⟨rfl, rfl, rfl, Nat.le_refl _, fun _ _ => rfl⟩⟩

/-- a block is dropped -/
theorem Post.kill {B0 : Base} {H : Hid} {s : St} {ρ : Ren} {G : Hp} {w : World} {b : Nat} {o : AObj}
    (p : Sub H s G) (hs : Sim B0 ρ G w) (hb : St.vis H s b = some o) : Post B0 H s (setObj s b none) ρ ρ G w w := by
  have hu := upd_set G hb none p
  refine ⟨.refl _, fun x a c => absurd a c, ⟨?_, ?_, hs.own, hs.base, hs.inv⟩, .refl _ _, Fr.set hb _⟩
  · intro c oc hc
    rw [hu] at hc
    by_cases e : c = b
    · simp only [e, if_true] at hc; cases hc
    · simp only [e, if_false] at hc; exact hs.obj c oc hc
  · intro c c' lc lc' hc hc' h1 h2 e
    rw [hu] at hc hc'
    refine hs.inj c c' lc lc' ?_ ?_ h1 h2 e
    · by_cases k : c = b
      · simp only [k, if_true] at hc; exact absurd rfl hc
      · simpa only [k, if_false] using hc
    · by_cases k : c' = b
      · simp only [k, if_true] at hc'; exact absurd rfl hc'
      · simpa only [k, if_false] using hc'

end Go.Ev
