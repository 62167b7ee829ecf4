/- The law FnExactTidyFormula returns true for every slice of nodes, and leaves its argument as it was. No condition. -/
import Derived.Test.YtkcgbkijlnpoiaaRows
import Derived.Test.YtkcgbkijlnpoiaaPiJoint
import Derived.Test.YtkcgbkijlnpoiaaTidy9
namespace Go.Proofs.Ytkcgbkijlnpoiaa
open Go Go.Pi Go.Pi.TidyVc Go.ChangeAt

theorem Try.own : ownKnob Try.prog.godebug = none := by kernel_rfl
theorem Try.laidOut : laidOutB Try.prog = true := by kernel_rfl

theorem tidy_sat (xs : List D) (h : wfAll S3.ps xs) : Sat Try.prog S3 3 xs [.b true] := by
  match xs, h with
  | [d], h =>
    obtain ⟨⟨l, z, rfl, hl, hz, hx⟩, _⟩ := h
    have : ∃ l' : List N, l = l'.map eN := by
      clear hl hz
      induction l with
      | nil => exact ⟨[], rfl⟩
      | cons x l ih =>
        obtain ⟨l', rfl⟩ := ih (fun y hy => hx y (List.mem_cons_of_mem _ hy))
        obtain ⟨x1, y1, rfl, ⟨n, rfl, _⟩, x2, y2, rfl, ⟨m, rfl, _⟩, rfl⟩ := hx x (List.mem_cons_self ..)
        exact ⟨(n, m) :: l', rfl⟩
    obtain ⟨l', rfl⟩ := this
    exact s3 l' z (by simpa [maxLen] using hl)

set_option maxRecDepth 100000 in
theorem f_lifted (os : Os) (started : os.Started) (H : Type) (enc : TypeId × Value → H) :
    ReturnsInHanded {} Try.checked os 3 .any (Rows.fnExactTidyFormulaSpec.pre6 enc Try.prog Try.f3 Rows.fnExactTidyFormulaRow.domain false) (Rows.fnExactTidyFormulaSpec.post enc Try.prog Try.f3 Rows.fnExactTidyFormulaRow.apart Rows.fnExactTidyFormulaRow.fresh Rows.fnExactTidyFormulaRow.handsOn Rows.fnExactTidyFormulaRow.again) := by
  refine law_lifted (C := Try.checked) (S := S3) (n := 8) (tb := 4) Try.own started (by kernel_rfl) Try.func3
    (ChangeSpec.witness6 (enc := enc) (C := Try.checked) false ⟨#[], #[.slice none 0 0], []⟩ 8 (by kernel_rfl) (by kernel_rfl) (by kernel_rfl) (by kernel_rfl))
    ⟨rfl, fun H ds hd => ?_⟩ Try.laidOut (by kernel_rfl) (by kernel_rfl) rfl (by kernel_rfl) (by kernel_rfl) tidy_sat
  match ds, hd with
  | [d], _ => rfl

set_option maxRecDepth 100000 in
theorem tidyFormula_holds : Rows.FnExactTidyFormulaSaid :=
  OpenClaim.holds_of_wide 3 Try.f3 rfl rfl rfl rfl rfl rfl rfl ⟨rfl, rfl, rfl, rfl, rfl⟩ rfl rfl rfl rfl rfl (by kernel_rfl) Try.func3 (by kernel_rfl)
    (of_decide_eq_true (by kernel_rfl)) (by unfold Func.isWrapper; rw [if_neg (of_decide_eq_false (by kernel_rfl))]; exact ⟨rfl, rfl⟩)
    (fun os started H enc _ => f_lifted os started H enc)
#print axioms tidyFormula_holds
end Go.Proofs.Ytkcgbkijlnpoiaa
