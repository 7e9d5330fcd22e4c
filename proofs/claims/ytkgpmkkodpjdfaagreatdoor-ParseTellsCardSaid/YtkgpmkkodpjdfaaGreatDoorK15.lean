/-
  Part K15 of the proofs of this seat: contracts of functions and plain facts, merged from 1 texts.
-/
import Derived.Test.YtkgpmkkodpjdfaaGreatDoorK14
namespace Go.Proofs.YtkgpmkkodpjdfaaGreatDoor.Pz
theorem all_rc : ∀ (n : Nat), (∀ w d l, l.length * 8 + 5 ≤ n → CmdsRC w d l) ∧ (∀ w d l, l.length * 8 + 3 ≤ n → WordRC w d l) ∧
    (∀ f g d l, l.length * 8 + 2 ≤ n → PartsRC f g d l) ∧ (∀ d l, l.length * 8 + 6 ≤ n → ScriptRC d l) ∧ (∀ g d l, l.length * 8 + 1 ≤ n → VarRC g d l) := by
  intro n
  induction n with
  | zero => refine ⟨?_, ?_, ?_, ?_, ?_⟩ <;> intros <;> omega
  | succ n ih =>
    obtain ⟨i1, i3, i4, i5, i6⟩ := ih
    refine ⟨fun w d l h => ?_, fun w d l h => wordR (fun l' h' => i4 .quote all3 d l' (by omega)) (fun l' h' => i4 (.bare w) all3 d l' (by omega)), fun f g d l h => ?_, fun d l h => bracketR (i1 true (d + 1) l (by omega)), fun g d l h => variableR (fun l' h' => i4 .paren g (d + 1) l' (by omega))⟩
    · cases w with
      | true => exact scriptR_true (fun l' h' => i3 true d l' (by omega))
      | false => exact scriptR_false (fun l' h' => i3 false d l' (by omega))
    · have hv : ∀ l' : Str, l'.length < l.length → VarRC g d l' := fun l' h' => i6 g d l' (by omega)
      have hs : ∀ l' : Str, l'.length < l.length → ScriptRC d l' := fun l' h' => i5 d l' (by omega)
      cases f with
      | bare wi => exact partsR_bare hv hs
      | quote => exact partsR_quote hv hs
      | paren => exact partsR_paren hv hs
      | never => exact partsR_never hv hs
theorem commands_rc (w : Bool) (d : Nat) (l : Str) : CmdsRC w d l := (all_rc (l.length * 8 + 5)).1 w d l (Nat.le_refl _)
theorem parts_rc (f : Upto) (g : Told) (d : Nat) (l : Str) : PartsRC f g d l := (all_rc (l.length * 8 + 2)).2.2.1 f g d l (Nat.le_refl _)
theorem var_rc (g : Told) (d : Nat) (l : Str) : VarRC g d l := (all_rc (l.length * 8 + 1)).2.2.2.2 g d l (Nat.le_refl _)
end Go.Proofs.YtkgpmkkodpjdfaaGreatDoor.Pz
