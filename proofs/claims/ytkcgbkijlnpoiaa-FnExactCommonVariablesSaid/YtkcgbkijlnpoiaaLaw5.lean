/- The law FnExactCommonVariables returns true for all texts and partings, and leaves its arguments as they were. No condition. -/
import Derived.Test.YtkcgbkijlnpoiaaRows
import Derived.Test.YtkcgbkijlnpoiaaPiJoint
import Derived.Test.YtkcgbkijlnpoiaaCommon8
namespace Go.Proofs.Ytkcgbkijlnpoiaa
open Go Go.Pi Go.Pi.TidyVc Go.Pi.CommonVc Go.ChangeAt

theorem Try.own : ownKnob Try.prog.godebug = none := by kernel_rfl
theorem Try.laidOut : laidOutB Try.prog = true := by kernel_rfl

theorem texts_enc {l : List D} (hx : ∀ x ∈ l, wfD .str x) : ∃ l' : List ByteArray, l = l'.map D.s ∧ ∀ x ∈ l', x.size ≤ maxLen := by
  induction l with
  | nil => exact ⟨[], rfl, fun x hx => by simp at hx⟩
  | cons x l ih =>
    obtain ⟨l', rfl, h2⟩ := ih (fun y hy => hx y (List.mem_cons_of_mem _ hy))
    obtain ⟨s, rfl, hs⟩ := hx x (List.mem_cons_self ..)
    refine ⟨s :: l', rfl, fun y hy => ?_⟩
    rcases List.mem_cons.mp hy with rfl | hy
    · exact hs
    · exact h2 y hy

theorem ints_enc {l : List D} (hx : ∀ x ∈ l, wfD (.int .i64) x) : ∃ l' : List Int, l = l'.map D.i := by
  induction l with
  | nil => exact ⟨[], rfl⟩
  | cons x l ih =>
    obtain ⟨l', rfl⟩ := ih (fun y hy => hx y (List.mem_cons_of_mem _ hy))
    obtain ⟨n, rfl, _⟩ := hx x (List.mem_cons_self ..)
    exact ⟨n :: l', rfl⟩

theorem common_sat (xs : List D) (h : wfAll S7.ps xs) : Sat Try.prog S7 7 xs [.b true] := by
  rcases xs with _ | ⟨d, _ | ⟨e, _ | ⟨g, _ | ⟨q, xs⟩⟩⟩⟩
  · exact h.elim
  · exact h.2.elim
  · exact h.2.2.elim
  · obtain ⟨⟨l, z, rfl, hl, hz, hx⟩, ⟨s, rfl, _⟩, ⟨m, y, rfl, hm, hy, hk⟩, _⟩ := h
    obtain ⟨l', rfl, hsz⟩ := texts_enc hx
    obtain ⟨m', rfl⟩ := ints_enc hk
    exact s7 l' z s m' y (by simpa [maxLen] using hl) (fun x hx => by simpa [maxLen] using hsz x hx)
  · exact h.2.2.2.elim

set_option maxRecDepth 100000 in
theorem f_lifted (os : Os) (started : os.Started) (H : Type) (enc : TypeId × Value → H) :
    ReturnsInHanded {} Try.checked os 7 .any (Rows.fnExactCommonVariablesSpec.pre6 enc Try.prog Try.f7 Rows.fnExactCommonVariablesRow.domain false) (Rows.fnExactCommonVariablesSpec.post enc Try.prog Try.f7 Rows.fnExactCommonVariablesRow.apart Rows.fnExactCommonVariablesRow.fresh Rows.fnExactCommonVariablesRow.handsOn Rows.fnExactCommonVariablesRow.again) := by
  refine law_lifted (C := Try.checked) (S := S7) (n := 8) (tb := 4) Try.own started (by kernel_rfl) Try.func7
    (ChangeSpec.witness6 (enc := enc) (C := Try.checked) false ⟨#[], #[.slice none 0 0, .string ⟨#[]⟩, .slice none 0 0], []⟩ 8 (by kernel_rfl) (by kernel_rfl) (by kernel_rfl) (by kernel_rfl))
    ⟨rfl, fun H ds hd => ?_⟩ Try.laidOut (by kernel_rfl) (by kernel_rfl) rfl (by kernel_rfl) (by kernel_rfl) common_sat
  match ds, hd with
  | [d, e, g], _ => rfl

set_option maxRecDepth 100000 in
theorem common_holds : Rows.FnExactCommonVariablesSaid :=
  OpenClaim.holds_of_wide 7 Try.f7 rfl rfl rfl rfl rfl rfl rfl ⟨rfl, rfl, rfl, rfl, rfl⟩ rfl rfl rfl rfl rfl (by kernel_rfl) Try.func7 (by kernel_rfl)
    (of_decide_eq_true (by kernel_rfl)) (by unfold Func.isWrapper; rw [if_neg (of_decide_eq_false (by kernel_rfl))]; exact ⟨rfl, rfl⟩)
    (fun os started H enc _ => f_lifted os started H enc)
#print axioms common_holds
end Go.Proofs.Ytkcgbkijlnpoiaa
