/- The law FnExactForgetClassically returns true for every slice of nodes and every number, and leaves its arguments as they were. No condition. -/
import Derived.Test.YtkcgbkijlnpoiaaRows
import Derived.Test.YtkcgbkijlnpoiaaPiJoint
import Derived.Test.YtkcgbkijlnpoiaaForget2
namespace Go.Proofs.Ytkcgbkijlnpoiaa
open Go Go.Pi Go.Pi.TidyVc Go.Pi.ForgetVc Go.ChangeAt

theorem Try.own : ownKnob Try.prog.godebug = none := by kernel_rfl
theorem Try.laidOut : laidOutB Try.prog = true := by kernel_rfl

theorem nodes_enc {l : List D} (hx : ∀ x ∈ l, wfD (.pair (.int .i64) (.pair (.int .i64) .unit)) x) : ∃ l' : List N, l = l'.map eN := by
  induction l with
  | nil => exact ⟨[], rfl⟩
  | cons x l ih =>
    obtain ⟨l', rfl⟩ := ih (fun y hy => hx y (List.mem_cons_of_mem _ hy))
    obtain ⟨x1, y1, rfl, ⟨n, rfl, _⟩, x2, y2, rfl, ⟨m, rfl, _⟩, rfl⟩ := hx x (List.mem_cons_self ..)
    exact ⟨(n, m) :: l', rfl⟩

set_option maxRecDepth 100000 in
theorem forget_sat (xs : List D) (h : wfAll S4.ps xs) : Sat Try.prog S4 4 xs [.b true] := by
  rcases xs with _ | ⟨d, _ | ⟨e, _ | ⟨q, xs⟩⟩⟩
  · exact h.elim
  · exact h.2.elim
  · obtain ⟨⟨l, z, rfl, hl, hz, hx⟩, ⟨v, rfl, _⟩, _⟩ := h
    obtain ⟨l', rfl⟩ := nodes_enc hx
    exact s4 l' z v (by simpa [maxLen] using hl)
  · exact h.2.2.elim

set_option maxRecDepth 100000 in
theorem f_lifted (os : Os) (started : os.Started) (H : Type) (enc : TypeId × Value → H) :
    ReturnsInHanded {} Try.checked os 4 .any (Rows.fnExactForgetClassicallySpec.pre6 enc Try.prog Try.f4 Rows.fnExactForgetClassicallyRow.domain false) (Rows.fnExactForgetClassicallySpec.post enc Try.prog Try.f4 Rows.fnExactForgetClassicallyRow.apart Rows.fnExactForgetClassicallyRow.fresh Rows.fnExactForgetClassicallyRow.handsOn Rows.fnExactForgetClassicallyRow.again) := by
  refine law_lifted (C := Try.checked) (S := S4) (n := 8) (tb := 4) Try.own started (by kernel_rfl) Try.func4
    (ChangeSpec.witness6 (enc := enc) (C := Try.checked) false ⟨#[], #[.slice none 0 0, .int .i64 0], []⟩ 8 (by kernel_rfl) (by kernel_rfl) (by kernel_rfl) (by kernel_rfl))
    ⟨rfl, fun H ds hd => ?_⟩ Try.laidOut (by kernel_rfl) (by kernel_rfl) rfl (by kernel_rfl) (by kernel_rfl) forget_sat
  match ds, hd with
  | [d, e], _ => rfl

set_option maxRecDepth 100000 in
theorem forget_holds : Rows.FnExactForgetClassicallySaid :=
  OpenClaim.holds_of_wide 4 Try.f4 rfl rfl rfl rfl rfl rfl rfl ⟨rfl, rfl, rfl, rfl, rfl⟩ rfl rfl rfl rfl rfl (by kernel_rfl) Try.func4 (by kernel_rfl)
    (of_decide_eq_true (by kernel_rfl)) (by unfold Func.isWrapper; rw [if_neg (of_decide_eq_false (by kernel_rfl))]; exact ⟨rfl, rfl⟩)
    (fun os started H enc _ => f_lifted os started H enc)
#print axioms forget_holds
end Go.Proofs.Ytkcgbkijlnpoiaa
