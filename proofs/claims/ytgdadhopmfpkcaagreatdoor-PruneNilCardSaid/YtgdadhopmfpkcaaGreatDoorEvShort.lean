/- Short words for values and blocks, for texts that a program writes. -/
import Derived.Test.YtgdadhopmfpkcaaGreatDoorEvTell
set_option linter.unusedVariables false
set_option linter.unusedSimpArgs false
namespace Go.Ev
abbrev vI (n : Nat) : Value := .int .i64 (.ofNat n)
abbrev vN (n : Nat) : Value := .int .i64 (.negSucc n)
abbrev vU (n : Nat) : Value := .int .u8 (.ofNat n)
abbrev vB (b : Bool) : Value := .bool b
abbrev vP (b o : Nat) : Value := .pointer (some ⟨b, o, none⟩)
abbrev vL (b o n c : Nat) : Value := .slice (some ⟨b, o, none⟩) n c
abbrev vM (b o z n c : Nat) : Value := .slice (some ⟨b, o, some z⟩) n c
abbrev vZ : Value := .slice none 0 0
abbrev vS (l : List UInt8) : Value := .string ⟨⟨l⟩⟩
abbrev vA (l : List Value) : Value := .agg ⟨l⟩
abbrev vT (l : List Value) : Value := .tuple ⟨l⟩
noncomputable abbrev oC (e : TypeId) (l : List Value) : AObj := .cells (trOf l 0 .lf) l.length e
end Go.Ev
