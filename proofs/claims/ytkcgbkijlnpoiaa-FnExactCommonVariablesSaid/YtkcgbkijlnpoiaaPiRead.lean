/- Operations that only read commute with each other. -/
import Derived.Test.YtkcgbkijlnpoiaaPiCall2
namespace Go.Pi
open Go

section
variable {P : Program} {ops : Array Oper} {Q : Exit → Act → World → Prop} {md : Region.Mode}

/-- It never changes the world. -/
def Keep (P : Program) {α : Type} (s : Sem α) : Prop := ∀ w v w', s.run P w = .ok v w' → w' = w

theorem Keep.pure {α : Type} (v : α) : Keep P (pure v : Sem α) := by
  intro w u w' h
  simp only [Sem.run_pure, Result.ok.injEq] at h
  exact h.2.symm

theorem Keep.bind {α β : Type} {s : Sem α} {k : α → Sem β} (h1 : Keep P s) (h2 : ∀ v, Keep P (k v)) : Keep P (s >>= k) := by
  intro w u w' h
  rw [Sem.run_bind] at h
  cases hs : s.run P w with
  | halt x w1 => rw [hs] at h; cases h
  | ok v w1 =>
    rw [hs] at h
    have := h1 w v w1 hs
    subst this
    exact h2 v _ u w' h

theorem Keep.never {α : Type} {s : Sem α} (h : ∀ w v w', s.run P w ≠ .ok v w') : Keep P s := fun w v w' hr => absurd hr (h w v w')

theorem keep_program : Keep P program := by
  intro w v w' h
  simp at h
  exact h.2.symm

theorem keep_stuck {α : Type} (m : String) : Keep P (stuck m : Sem α) := Keep.never fun w v w' => by simp

theorem keep_typeInfo (t : TypeId) : Keep P (typeInfo t) := by
  unfold typeInfo
  refine Keep.bind keep_program fun p => ?_
  split
  · exact Keep.pure _
  · exact keep_stuck _

theorem keep_underlying (t : TypeId) : Keep P (underlying t) := by
  cases hu : P.underlying t with
  | some d => intro w v w' h; rw [run_underlying hu] at h; cases h; rfl
  | none => exact Keep.never fun w v w' => by simp [underlying, hu]

theorem keep_sizeOf (t : TypeId) : Keep P (sizeOf t) := by
  unfold sizeOf
  exact Keep.bind (keep_typeInfo t) fun i => Keep.pure _

theorem keep_load (a : Addr) : Keep P (load a) := by
  intro w v w' h
  cases hc : w.cell? a with
  | some u => simp [hc] at h; exact h.2.symm
  | none =>
    simp [hc] at h
    split at h
    · simp only [Result.ok.injEq] at h; exact h.2.symm
    · cases h

theorem keep_loadCells (a : Addr) : ∀ (n i : Nat) (acc : Array Value), Keep P (loadCellsFrom a i n acc)
  | 0, _, _ => Keep.pure _
  | n + 1, i, acc => by
    unfold loadCellsFrom
    exact Keep.bind (keep_load _) fun v => keep_loadCells a n _ _

theorem keep_sureAddr (v : Value) : Keep P (Instr.sureAddr v) := by
  unfold Instr.sureAddr
  split
  · exact Keep.pure _
  · exact Keep.never fun w v w' => by simp

theorem keep_isAgg (t : TypeId) : Keep P (isAgg t) := by
  unfold isAgg
  refine Keep.bind (keep_underlying t) fun d => ?_
  split <;> exact Keep.pure _

theorem keep_loadAt (t : TypeId) (x : Value) : Keep P (Instr.loadAt t x) := by
  unfold Instr.loadAt loadVar
  refine Keep.bind (keep_sureAddr x) fun a => Keep.bind (keep_isAgg t) fun b => ?_
  split
  · exact Keep.bind (keep_sizeOf t) fun n => Keep.bind (keep_loadCells _ _ _ _) fun cs => Keep.pure _
  · exact keep_load a

/-- An operation that, if it runs, gives a value and leaves the world. -/
def KeepO (P : Program) (o : Oper) : Prop := ∀ (a : Act) (w : World) (n : Next) (w' : World), (execOp a.eval o).run P w = .ok n w' → w' = w ∧ ∃ v, n = .value v

/-- What it gives in this world. -/
def YieldsAt (P : Program) (ops : Array Oper) (o : Oper) (v : Value) (a : Act) (w : World) : Prop :=
  (Region.wanted o (yielded ops a.tmps) = true ∧ (execOp a.eval o).run P w = .ok (.value v) w) ∨
  (Region.wanted o (yielded ops a.tmps) = false ∧ v = undef)

theorem YieldsAt.wpOp {i : Nat} {o : Oper} {v : Value} {a : Act} {w : World} (hi : ops[i]? = some o) (hy : YieldsAt P ops o v a w)
    {K : Act → World → Prop} (h : K (a.put o.dst v) w) : wpOp P ops Q i K a w := by
  unfold Go.wpOp
  simp only [hi]
  rcases hy with ⟨hw, hv⟩ | ⟨hw, rfl⟩
  · simp only [hw, if_true, Oper.wp, hv, Oper.upon]; exact .inl h
  · simp only [hw, Bool.false_eq_true, if_false]; exact h

theorem YieldsAt.of_same {o : Oper} {v : Value} {a a' : Act} {w : World} (hy : YieldsAt P ops o v a w) (he : execOp a'.eval o = execOp a.eval o)
    (hw : Region.wanted o (yielded ops a'.tmps) = Region.wanted o (yielded ops a.tmps)) : YieldsAt P ops o v a' w := by
  unfold YieldsAt at *
  rw [he, hw]
  exact hy

theorem wpOp_putS {j : Nat} {oi oj : Oper} {v : Value} (hj : ops[j]? = some oj) (hap : oi.apart ops oj = true) (hkeep : KeepO P oj)
    (hsi : ∀ cs b, oi.op ≠ .select cs b) (hsj : ∀ cs b, oj.op ≠ .select cs b)
    (hQ : ∀ c a w, Q (.panic c) (a.put oi.dst v) w → Q (.panic c) a w) {K : Act → World → Prop} {a : Act} {w : World}
    (hy : YieldsAt P ops oi v a w) (h : wpOp P ops Q j K (a.put oi.dst v) w) :
    wpOp P ops Q j (fun a' w' => YieldsAt P ops oi v a' w' ∧ K (a'.put oi.dst v) w') a w := by
  obtain ⟨h1, h2, h3⟩ := Oper.apart_spec hap
  have keep : ∀ (a : Act), YieldsAt P ops oi v a w → ∀ u, YieldsAt P ops oi v (a.put oj.dst u) w := fun a hy u =>
    hy.of_same (execOp_put oi hsi a oj.dst u h3) (wanted_put oi a oj.dst u h3)
  unfold wpOp at *
  simp only [hj] at *
  rw [wanted_put oj a oi.dst v h1] at h
  split
  · rename_i hw
    simp only [hw, if_true] at h
    rcases h with h | ⟨hasks, hlets⟩
    case inr => exact .inr ⟨by unfold Oper.asks at *; rw [execOp_put oj hsj a oi.dst v h1] at hasks; exact hasks, hlets⟩
    refine .inl ?_
    unfold Oper.wp at *
    rw [execOp_put oj hsj a oi.dst v h1] at h
    cases hr : (execOp a.eval oj).run P w with
    | ok n w' =>
      obtain ⟨rfl, u, rfl⟩ := hkeep a w n w' hr
      rw [hr] at h
      simp only [Oper.upon] at h ⊢
      exact ⟨keep a hy u, by rw [← Act.put_comm a v u h2]; exact h⟩
    | halt x w' =>
      rw [hr] at h
      cases x <;> simp only [Oper.upon] at h ⊢
      case panic u => exact hQ _ _ _ h
  · rename_i hw
    simp only [hw] at h
    exact ⟨keep a hy _, by rw [← Act.put_comm a v undef h2]; exact h⟩

/-- Such an operation may be run first, if what may run ahead of it only reads. -/
theorem wpAny_firstS {i : Nat} {oi : Oper} {v : Value} (S : Nat → Prop) (hi : ops[i]? = some oi) (hsel : ∀ (j : Nat) (o : Oper) cs b, ops[j]? = some o → o.op ≠ .select cs b)
    (hQ : ∀ c a w, Q (.panic c) (a.put oi.dst v) w → Q (.panic c) a w)
    (hS : ∀ (j : Nat) (oj : Oper), S j → ops[j]? = some oj → ∃ e ∈ oj.after, Region.binds md e = true ∧ (e.on = i ∨ S e.on)) :
    ∀ (fuel : Nat) (listed : Array Bool) (a : Act) (w : World),
      (∀ j, S j → listed.getD j false = false) →
      (∀ j oj, ops[j]? = some oj → j ≠ i → listed.getD j true = false → ¬ S j → oi.apart ops oj = true ∧ KeepO P oj) →
      i ∈ Region.ready md ops listed → YieldsAt P ops oi v a w →
      wpAny P md ops Q fuel (listed.setIfInBounds i true) (a.put oi.dst v) w → wpAny P md ops Q (fuel + 1) listed a w := by
  intro fuel
  have notS : ∀ (listed : Array Bool) (j : Nat), (∀ j, S j → listed.getD j false = false) → i ∈ Region.ready md ops listed → j ∈ Region.ready md ops listed → ¬ S j := by
    intro listed j hun hr hj hs
    obtain ⟨_, oj, hoj, hall⟩ := mem_ready.1 hj
    obtain ⟨e, he, hb, h⟩ := hS j oj hs hoj
    have h1 := hall e he hb
    rcases h with h | h
    · have h0 := (mem_ready.1 hr).1
      rw [h] at h1
      rcases Nat.lt_or_ge i listed.size with h' | h'
      · simp [h'] at h0 h1; rw [h0] at h1; cases h1
      · simp [Array.getElem?_eq_none h'] at h1
    · rw [hun _ h] at h1
      cases h1
  induction fuel with
  | zero =>
    intro listed a w _ _ hr hy H
    refine ⟨fun h => (by rw [h] at hr; cases hr), fun j hj => ?_⟩
    by_cases hji : j = i
    · subst hji; exact hy.wpOp hi H
    · have := ready_mono hj hji
      rw [H.1] at this
      cases this
  | succ fuel ih =>
    intro listed a w hun hfree hr hy H
    refine ⟨fun h => (by rw [h] at hr; cases hr), fun j hj => ?_⟩
    by_cases hji : j = i
    · subst hji; exact hy.wpOp hi H
    · have h1 := H.2 j (ready_mono hj hji)
      obtain ⟨hjun, oj, hoj, hall⟩ := mem_ready.1 hj
      have hnS := notS listed j hun hr hj
      obtain ⟨hap, hk⟩ := hfree j oj hoj hji hjun hnS
      have h2 := wpOp_putS hoj hap hk (fun cs b => hsel i oi cs b hi) (fun cs b => hsel j oj cs b hoj) hQ hy h1
      have hun' : ∀ k, S k → (listed.setIfInBounds j true).getD k false = false := fun k hk => by
        have hne : j ≠ k := fun e => hnS (e ▸ hk)
        rw [getD_set_ne false hne]; exact hun k hk
      have hfree' : ∀ k ok, ops[k]? = some ok → k ≠ i → (listed.setIfInBounds j true).getD k true = false → ¬ S k → oi.apart ops ok = true ∧ KeepO P ok := fun k ok hk hki hun hno => by
        refine hfree k ok hk hki ?_ hno
        by_cases hjk : j = k
        · subst hjk; exact hjun
        · rw [getD_set_ne true hjk] at hun; exact hun
      refine wpOp_mono (fun a' w' h3 => ih (listed.setIfInBounds j true) a' w' hun' hfree' (ready_mono hr (Ne.symm hji)) h3.1 ?_) h2
      rw [Array.setIfInBounds_comm _ _ hji]
      exact h3.2

end
end Go.Pi
