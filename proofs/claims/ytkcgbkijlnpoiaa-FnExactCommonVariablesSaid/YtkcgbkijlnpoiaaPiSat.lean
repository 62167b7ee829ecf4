/- What a function's condition means; and that each operation but a call does what the generator says. -/
import Derived.Test.YtkcgbkijlnpoiaaPiSteal
import Derived.Test.YtkcgbkijlnpoiaaPiIter
import Derived.Test.YtkcgbkijlnpoiaaPiBuild
namespace Go.Pi

/-- The arguments are as the signature says. -/
structure ArgsOk (w : World) (St : Nat → Prop) (o : Nat → Option Nat) (ms : List (PM × Ty)) (vs : List Value) (ds : List D) : Prop where
  lenV : vs.length = ms.length
  lenD : ds.length = ms.length
  each : ∀ (i : Nat) (m : PM × Ty) (v : Value) (d : D), ms[i]? = some m → vs[i]? = some v → ds[i]? = some d →
    ∃ cs, v = mkV m.2 cs ∧ (m.1 = .bor → rd w St m.2 d cs) ∧ (m.1 ≠ .bor → rep w St m.2 (fun b => o b = some i) d cs)

/-- How many arguments ahead of the i-th a call changes. -/
def inoNo (ps : List (PM × Ty)) (i : Nat) : Nat := ((ps.take i).filter fun m => decide (m.1 = .ino)).length

structure ResOk (w : World) (St : Nat → Prop) (o : Nat → Option Nat) (ts : List Ty) (vs : List Value) (ds : List D) : Prop where
  lenV : vs.length = ts.length
  lenD : ds.length = ts.length
  each : ∀ (j : Nat) (t : Ty) (v : Value) (d : D), ts[j]? = some t → vs[j]? = some v → ds[j]? = some d → ∃ cs, v = mkV t cs ∧ rep w St t (fun b => o b = some j) d cs

def FinOk (w : World) (St : Nat → Prop) (o : Nat → Option Nat) (n : Nat) (ms : List (PM × Ty)) (vs : List Value) (ds : List D) : Prop :=
  ∀ (i : Nat) (t : Ty) (v : Value) (d : D), ms[i]? = some (.ino, t) → vs[i]? = some v → ds[inoNo ms i]? = some d → ∃ cs, v = mkV t cs ∧ rep w St t (fun b => o b = some (n + inoNo ms i)) d cs

def retVal : List Value → Value
  | [v] => v
  | vs => .tuple vs.toArray

/-- Which blocks a call was given, for good or to be changed. -/
def tkOf (o : Nat → Option Nat) (b : Nat) : Prop := o b ≠ none

/-- What a call leaves. -/
structure Post (S : Sg) (w w' : World) (St : Nat → Prop) (o o' : Nat → Option Nat) (vs rvs : List Value) (rs : List D) : Prop where
  res : ResOk w' (fun b => (St b ∨ tkOf o b ∨ w.heap.size ≤ b) ∧ b < w'.heap.size ∧ o' b = none) o' S.rs rvs (rs.take S.rs.length)
  fin : FinOk w' (fun b => (St b ∨ tkOf o b ∨ w.heap.size ≤ b) ∧ b < w'.heap.size ∧ o' b = none) o' S.rs.length S.ps vs (rs.drop S.rs.length)
  own : ∀ b j, o' b = some j → b < w'.heap.size ∧ (tkOf o b ∨ w.heap.size ≤ b)
  frame : ∀ b, b < w.heap.size → o b = none → w'.heap[b]? = w.heap[b]?
  grow : w.heap.size ≤ w'.heap.size
  os : w'.os = w.os
  output : w'.output = w.output
  tape : w'.tape = w.tape
  thaw : ∀ b, w'.frozen? b = w.frozen? b

/-- Called with xs the function returns rs (and then what the arguments that it changes hold), and touches nothing else. -/
def Sat (P : Program) (S : Sg) (g : Nat) (xs rs : List D) : Prop :=
  ∀ (w : World) (St : Nat → Prop) (o : Nat → Option Nat) (vs : List Value), (∀ b, St b → b < w.heap.size ∧ o b = none) → (∀ b i, o b = some i → b < w.heap.size) → ArgsOk w St o S.ps vs xs →
    Calls P g vs.toArray w fun e w' => ∃ o' rvs, e = .returned (retVal rvs) ∧ Post S w w' St o o' vs rvs rs

def EnvOk (P : Program) (E : Env) : Prop := TOk P E.T ∧ ∀ g fns xs rs, E.sat g fns xs rs → ∃ S, E.sg g fns = some S ∧ Sat P S g xs rs

section
variable {P : Program} {C : Ctx} {E : Env} {T : Nat → TI} {A : Ann} {F F1 : Fr} {ow : Nat → Option Nat} {a : Act} {w w' : World} {e : Ent} {vc : Prop} {o : Oper}

theorem nilCheck_ok {x : Operand} (R : Rel C F ow a w) (ho : o.op = .nilCheck x) (h : nilCheckE F x = some (F1, e, vc)) : OpOk P C o a w F1 e := by
  unfold nilCheckE at h
  split at h
  · rename_i s
    rw [Option.bind_eq_some_iff] at h
    obtain ⟨e0, he, h⟩ := h
    split at h
    · rename_i τ d
      simp only [Option.some.injEq, Prod.mk.injEq] at h
      obtain ⟨rfl, rfl, _⟩ := h
      obtain ⟨g, cs, hp, hg, hn, hl, hlie⟩ := val_bx R he
      refine ⟨.pointer (some ⟨g, 0, none⟩), w, by simp [execOp, ho, eval_tmp, hp], ow, R, ⟨g, 0, cs, rfl, hg, hn, hl, hlie, fun σ hσ => by cases hσ; exact ⟨_, hp, rfl, rfl⟩⟩, fun r hr => by cases hr; exact R.lt s _ he⟩
    · rename_i τ d
      simp only [res, Option.some.injEq, Prod.mk.injEq] at h
      obtain ⟨rfl, rfl, _⟩ := h
      obtain ⟨cs, hp, aa, cells, rfl, h1⟩ := R.ents s _ he
      refine ⟨.pointer (some aa), w, by simp [execOp, ho, eval_tmp, hp, mkV], Left.of_rd R rfl (cs := [.pointer (some aa)]) rfl ⟨aa, cells, rfl, h1⟩⟩
    · rename_i τ d r π
      simp only [Option.some.injEq, Prod.mk.injEq] at h
      obtain ⟨rfl, rfl, _⟩ := h
      have h0 := R.ents s _ he
      obtain ⟨g, q, cs, hp, h1⟩ := h0
      exact ⟨.pointer (some ⟨g, q, none⟩), w, by simp [execOp, ho, eval_tmp, hp], ow, R, ⟨g, q, cs, rfl, h1⟩, fun r' hr => by cases hr; exact R.root s _ _ he rfl⟩
    · rename_i τ d r π
      simp only [Option.some.injEq, Prod.mk.injEq] at h
      obtain ⟨rfl, rfl, _⟩ := h
      obtain ⟨cs, k1, ⟨b, cells, rfl, hsp, hS, hn, hlk, hlie⟩, hpl⟩ := R.ents s _ he
      have hb : b = ⟨b.block, b.off, none⟩ := by
        obtain ⟨x, y, z⟩ := b
        simp only at hsp
        subst hsp
        rfl
      refine ⟨.pointer (some b), w, by simp [execOp, ho, eval_tmp, k1, mkV], ow, R, ⟨b.block, b.off, cells, by rw [← hb], hS, hn, hlk, hlie, fun σ hσ => ?_⟩, fun r' hr => by cases hr; exact R.root s _ _ he rfl⟩
      cases π with
      | none => cases hσ
      | some π =>
        simp only [addPath, Option.map_some, Option.some.injEq] at hσ
        subst hσ
        have h2 := hpl π rfl
        by_cases hπ : π = []
        · subst hπ
          exact ⟨b, (h2.1 rfl).symm.trans k1, rfl, rfl⟩
        · obtain ⟨g, q, hp, hg, hl⟩ := h2.2 hπ
          exact placeL_append (w := w) (X := fun b => ow b = some r) (g1 := g) (q1 := q) [.deref] ⟨b, hg, hl 0 _ rfl, rfl, rfl⟩ π hp
    · cases h
  · cases h

/-- Each operation but pick, cap and the calls of functions. -/
theorem evalOp_ok {an : Nat} (hT : TOk P T) (hA : A.prot = C.prot) (R : Rel C F ow a w) (h : evalOp T A an o F = some (F1, e, vc)) (hv : vc) :
    ∃ v w', ((execOp a.eval o).run P w = .ok (.value v) w' ∨ ((execOp a.eval o).run P w = .ok .skip w' ∧ v = undef)) ∧ Left C F1 e v a w' := by
  have val : OpOk P C o a w F1 e → ∃ v w', ((execOp a.eval o).run P w = .ok (.value v) w' ∨ ((execOp a.eval o).run P w = .ok .skip w' ∧ v = undef)) ∧ Left C F1 e v a w' :=
    fun ⟨v, w', h1, h2⟩ => ⟨v, w', .inl h1, h2⟩
  cases hop : o.op with
  | move x =>
    unfold evalOp at h; rw [hop] at h
    simp only [Option.map_eq_some_iff, Prod.mk.injEq] at h
    obtain ⟨q, hq, rfl, rfl, _⟩ := h
    exact ⟨a.eval x, w, .inl (by simp [execOp, hop]), moveE_ok R hA hq⟩
  | assign x =>
    unfold evalOp at h; rw [hop] at h
    simp only [Option.map_eq_some_iff, Prod.mk.injEq] at h
    obtain ⟨q, hq, rfl, rfl, _⟩ := h
    exact ⟨a.eval x, w, .inl (by simp [execOp, hop]), moveE_ok R hA hq⟩
  | nilCheck x => unfold evalOp at h; rw [hop] at h; exact val (nilCheck_ok R hop h)
  | unOp op t x => unfold evalOp at h; rw [hop] at h; exact val (unE_ok R hop h hv)
  | binOp op tx x y ty => unfold evalOp at h; rw [hop] at h; exact val (binE_ok hT R hop h hv)
  | convert s d x => unfold evalOp at h; rw [hop] at h; exact val (convE_ok hT R hop h hv)
  | load t p =>
    unfold evalOp at h; rw [hop] at h
    simp only at h
    split at h
    · exact val (stealE_ok hT R hop h)
    · split at h
      · exact val (frzLoadE_ok hT R hop h)
      · exact val (loadE_ok hT R hop h hv)
  | store t p x =>
    unfold evalOp at h; rw [hop] at h
    simp only at h
    split at h
    · have he : e = .val .gone .u := by
        unfold storeE at h
        rw [Option.bind_eq_some_iff] at h
        obtain ⟨_, _, h⟩ := h
        rw [Option.bind_eq_some_iff] at h
        obtain ⟨_, _, h⟩ := h
        split at h
        · rw [Option.bind_eq_some_iff] at h
          obtain ⟨_, _, h⟩ := h
          replace h := bind_guard h; obtain ⟨_, h⟩ := h
          simp only [Option.some.injEq, Prod.mk.injEq] at h
          exact h.2.1.symm
        · cases h
      obtain ⟨w', h1, ow', R'⟩ := storeE_ok hT hA R hop h hv
      subst he
      exact ⟨undef, w', .inr ⟨h1, rfl⟩, ow', R', ⟨[], rfl, trivial⟩, fun r hr => by cases hr⟩
    · cases h
  | fieldAddr s x f => unfold evalOp at h; rw [hop] at h; exact val (fieldAddrE_ok hT R hop h hv)
  | field s x f => unfold evalOp at h; rw [hop] at h; exact val (fieldE_ok hT R hop h hv)
  | indexAddr t x i => unfold evalOp at h; rw [hop] at h; exact val (indexAddrE_ok hT R hop h hv)
  | index t x i => unfold evalOp at h; rw [hop] at h; exact val (indexE_ok hT R hop h hv)
  | slice t x lo hi mx => unfold evalOp at h; rw [hop] at h; exact val (sliceE_ok hT hA R hop h hv)
  | build t ps => unfold evalOp at h; rw [hop] at h; exact val (buildE_ok hT hA R hop h)
  | buildSlice t n ps => unfold evalOp at h; rw [hop] at h; exact val (buildSliceE_ok hT hA R hop h hv)
  | makeSlice t n c => unfold evalOp at h; rw [hop] at h; exact val (makeSliceE_ok hT R hop h hv)
  | box t x => unfold evalOp at h; rw [hop] at h; exact val (boxE_ok hA R hop h hv)
  | alloc t => unfold evalOp at h; rw [hop] at h; exact val (allocE_ok hT R hop h hv)
  | extract x n => unfold evalOp at h; rw [hop] at h; exact val (extractE_ok hA R hop h hv)
  | makeFunc fn first captured => unfold evalOp at h; rw [hop] at h; exact val (makeFuncE_ok hA R hop h hv)
  | range t x => unfold evalOp at h; rw [hop] at h; exact val (rangeE_ok hT R hop h)
  | call c =>
    unfold evalOp at h; rw [hop] at h
    obtain ⟨cal, args, argTypes⟩ := c
    cases cal with
    | value f => cases h
    | invoke r m => cases h
    | builtin b =>
      simp only at h
      split at h
      · rename_i x t ha ht; exact val (lenE_ok hT R hop ha ht h hv)
      · rename_i x y ha; exact val (maxE_ok (m := true) R hop ha h hv)
      · rename_i x y ha; exact val (maxE_ok (m := false) R hop ha h hv)
      · rename_i s x ts tx ha ht; exact val (appendE_ok hT hA R hop ha ht h hv)
      · cases h
  | _ => unfold evalOp at h; rw [hop] at h; cases h

end
end Go.Pi
