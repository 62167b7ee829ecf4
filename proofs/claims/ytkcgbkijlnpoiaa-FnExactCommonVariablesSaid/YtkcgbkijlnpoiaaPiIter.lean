/- Loops over strings. -/
import Derived.Test.YtkcgbkijlnpoiaaPiMake2
import Derived.Laws.RangeString
import Derived.Lib.OthersKept
namespace Go.Pi

section
variable {P : Program} {C : Ctx} {T : Nat → TI} {A : Ann} {F F1 : Fr} {ow : Nat → Option Nat} {a : Act} {w : World} {e : Ent} {vc : Prop} {o : Oper}

theorem rangeE_ok {t : Nat} {x : Operand} (hT : TOk P T) (R : Rel C F ow a w) (ho : o.op = .range t x) (h : rangeE T t x F = some (F1, e, vc)) : OpOk P C o a w F1 e := by
  unfold rangeE at h
  rw [Option.bind_eq_some_iff] at h
  obtain ⟨⟨q, d⟩, hx, h⟩ := h
  have h1 := hT t
  simp only at h
  split at h
  · rename_i ht
    simp only [res, Option.some.injEq, Prod.mk.injEq] at h
    obtain ⟨rfl, rfl, _⟩ := h
    rw [ht] at h1
    obtain ⟨_, _, _, _, _, h1⟩ := h1
    obtain ⟨R', _, hst⟩ := R.alloc (.stringIter d.toS 0) (fun b => by
      unfold World.frozen? World.alloc
      simp only [Array.getElem?_push]
      by_cases h : b.block = w.heap.size
      · rw [if_pos h, h]
        simp
      · rw [if_neg h])
    have hnew : (w.alloc (.stringIter d.toS 0)).heap[w.heap.size]? = some (.stringIter d.toS 0) := (Go.MapKept.heap_alloc w _).1
    refine ⟨.pointer (some ⟨w.heap.size, 0, none⟩), w.alloc (.stringIter d.toS 0), ?_, _, R', ⟨[.pointer (some ⟨w.heap.size, 0, none⟩)], rfl, w.heap.size, rfl, if_pos rfl, hnew⟩, fun r hr => by cases hr⟩
    have hrun := run_range_string (P := P) w t d.toS h1
    have hi : w.iter d.toS 0 = w.alloc (.stringIter d.toS 0) := rfl
    rw [hi] at hrun
    simp [execOp, ho, view_str R hx, hrun]
  · cases h

/-- A loop over a string goes on. -/
theorem Rel.step (R : Rel C F ow a w) {s : Nat} {d : D} (hF : F s = some (.val .iter d)) (hp : s ∉ C.prot) (pos : Nat) :
    ∃ g, tmOf a s = .pointer (some ⟨g, 0, none⟩) ∧ w.heap[g]? = some (.stringIter d.fst.toS d.snd.toI.toNat) ∧ Rel C (F.put s (.val .iter (.p (.s d.fst.toS) (.i pos)))) ow a (w.iterAt g d.fst.toS pos) := by
  obtain ⟨cs, e1, g, rfl, hO, hh⟩ := R.ents s _ hF
  have hlt : g < w.heap.size := (Array.getElem?_eq_some_iff.1 hh).1
  have hsn := R.lt s _ hF
  have hoth : ∀ b, b ≠ g → (w.iterAt g d.fst.toS pos).heap[b]? = w.heap[b]? := fun b hb => by
    simp only [World.iterAt]
    rw [Array.getElem?_setIfInBounds_ne (Ne.symm hb)]
  have hsz : (w.iterAt g d.fst.toS pos).heap.size = w.heap.size := by simp [World.iterAt]
  have hnew : (w.iterAt g d.fst.toS pos).heap[g]? = some (.stringIter d.fst.toS pos) := by simp [World.iterAt, hlt]
  have hst : ∀ b, Stb C ow w b → Stb C ow (w.iterAt g d.fst.toS pos) b ∧ (w.iterAt g d.fst.toS pos).heap[b]? = w.heap[b]? := fun b hb =>
    ⟨⟨hb.1, by rw [hsz]; exact hb.2.1, hb.2.2⟩, hoth b fun e => by subst e; rw [hb.2.2] at hO; cases hO⟩
  have hk : ∀ b q, ow b = some q → q ≠ s → ow b = some q ∧ (w.iterAt g d.fst.toS pos).heap[b]? = w.heap[b]? := fun b q hb hq =>
    ⟨hb, hoth b fun e => by subst e; rw [hb] at hO; simp only [Option.some.injEq] at hO; exact hq hO⟩
  refine ⟨g, e1, hh, { R with ents := ?_, root := ?_, lt := ?_, own := fun b q hb => by rw [hsz]; exact R.own b q hb, frame := ?_, grow := by rw [hsz]; exact R.grow, os := R.os, output := R.output, tape := R.tape, thaw := fun b => ?_ }⟩
  · intro q e' h
    rcases put_some h with ⟨rfl, rfl⟩ | ⟨hs, hF', hroot⟩
    · exact ⟨_, e1, g, rfl, hO, by rw [hnew]; rfl⟩
    · exact EntOk.mono hst (fun _ _ _ b hb => hk b q hb hs) (fun r hr => ⟨rfl, fun b hb => hk b r hb fun e => hroot (by rw [hr, e])⟩) (R.ents q e' hF')
  · intro q e' r h hr
    rcases put_some h with ⟨rfl, rfl⟩ | ⟨_, hF', _⟩
    · cases hr
    · exact R.root q e' r hF' hr
  · intro q e' h
    rcases put_some h with ⟨rfl, rfl⟩ | ⟨_, hF', _⟩
    · exact hsn
    · exact R.lt q e' hF'
  · intro b h1 h2 h3
    rw [hoth b fun e => ?_]
    · exact R.frame b h1 h2 h3
    · subst e
      rcases (R.own b s hO).2 with h | h | h
      · exact hp h.1
      · exact h3 h
      · omega
  · rw [← R.thaw b]
    unfold World.frozen?
    by_cases hb : b.block = g
    · rw [hb, hnew, hh]
    · rw [hoth _ hb]
end
end Go.Pi
