/- Each operation does what the generator says: boxes, tuples, function values, slices of slices. -/
import Derived.Test.YtkcgbkijlnpoiaaPiMake
namespace Go.Pi

section
variable {P : Program} {C : Ctx} {T : Nat → TI} {A : Ann} {F F1 : Fr} {ow : Nat → Option Nat} {a : Act} {w : World} {e : Ent} {vc : Prop} {o : Oper}

theorem left_box {ow2 : Nat → Option Nat} {τ : Ty} {d : D} {cs : List Value} {te : Nat} (R2 : Rel C F1 ow2 a w) (hn : cs.length = τ.size)
    (h : rep w (Stb C ow2 w) τ (fun b => ow2 b = some C.n) d cs) :
    Left C F1 (.val (.bx true τ) d) (.pointer (some ⟨w.heap.size, 0, none⟩)) a (w.alloc (.cells cs.toArray te)) := by
  obtain ⟨R3, hno, hst⟩ := R2.alloc (.cells cs.toArray te)
  have hnew : (w.alloc (.cells cs.toArray te)).heap[w.heap.size]? = some (.cells cs.toArray te (0, 0)) := heap_alloc_new w _
  refine ⟨_, R3, ⟨[.pointer (some ⟨w.heap.size, 0, none⟩)], rfl, w.heap.size, cs.toArray, te, cs, rfl, by simp, hnew, by simpa using hn, hn, ?_, ?_⟩, fun r hr => by cases hr⟩
  · refine rep_mono hst _ _ _ _ _ (fun b hb => ?_) h
    have hlt := (R2.own b _ hb).1
    have hne : b ≠ w.heap.size := by omega
    exact ⟨⟨by simp only [hne, if_false]; exact hb, hne⟩, heap_alloc_old w _ b hlt⟩
  · have := lies_new hnew (pre := []) (cs := cs) (post := []) (by simp)
    simpa using this

theorem boxE_ok {t : Nat} {x : Operand} (hA : A.prot = C.prot) (R : Rel C F ow a w) (ho : o.op = .box t x) (h : boxE T A t x F = some (F1, e, vc)) (hv : vc) : OpOk P C o a w F1 e := by
  unfold boxE at h
  rw [Option.bind_eq_some_iff] at h
  obtain ⟨⟨F2, τ, d⟩, hab, h⟩ := h
  replace h := bind_guard h; obtain ⟨hk, h⟩ := h
  simp only [res, Option.some.injEq, Prod.mk.injEq] at h
  obtain ⟨rfl, rfl, _⟩ := h
  obtain ⟨hm, ow1, cs, R1, _, _, e1, h1⟩ := absorb_ok R hA hab
  obtain ⟨l1, l2⟩ := rep_len hm h1
  refine ⟨_, w.alloc (.cells cs.toArray t), ?_, left_box R1 l1 (rep_mono (fun _ h => ⟨h, rfl⟩) _ _ _ _ _ (fun b hb => ⟨hb.1, rfl⟩) h1)⟩
  simp [execOp, ho, Instr.box, newVar, newRow, e1, mkV_cells hm l1 l2]

theorem allocE_ok {t : Nat} (hT : TOk P T) (R : Rel C F ow a w) (ho : o.op = .alloc t) (h : allocE T t F = some (F1, e, vc)) (hv : vc) : OpOk P C o a w F1 e := by
  have key : ∀ (τ : Ty) (i : TypeInfo), P.info? t = some i → i.zero = some (mkV τ τ.zeros) → τ.plainZ = true → τ.mem = true → OpOk P C o a w F (.val (.bx true τ) τ.zero) := by
    intro τ i hi hz hp hm
    obtain ⟨zr, zl⟩ := zeros_rep (w := w) (S := Stb C ow w) (O := fun b => ow b = some C.n) τ hp
    obtain ⟨l1, l2⟩ := rep_len hm zr
    refine ⟨_, w.alloc (.cells τ.zeros.toArray t), ?_, left_box R l1 zr⟩
    simp [execOp, ho, Instr.alloc, zeroValue, typeInfo, hi, hz, newVar, newRow, mkV_cells hm l1 l2]
  have h1 := hT t
  unfold allocE at h
  split at h
  · rename_i τ ht
    rw [ht] at h1
    obtain ⟨i, hi, _, hp, hz, hu⟩ := h1
    simp only [res, Option.some.injEq, Prod.mk.injEq] at h
    obtain ⟨rfl, rfl, _⟩ := h
    refine key τ i hi hz hp ?_
    cases τ <;> simp only at hu <;> first | rfl | exact hu.elim
  · rename_i e0 by0 et ht
    rw [ht] at h1
    obtain ⟨i, j, hi, _, hu, hz, hj, hjs, _, hp, _, hm⟩ := h1
    simp only [res, Option.some.injEq, Prod.mk.injEq] at h
    obtain ⟨rfl, rfl, _⟩ := h
    exact key (.sl true et) i hi hz rfl hm
  · rename_i fs τ ht
    rw [ht] at h1
    obtain ⟨i, gs, hi, hu, hs, hp, _, hz, _, _, _, hm⟩ := h1
    simp only [res, Option.some.injEq, Prod.mk.injEq] at h
    obtain ⟨rfl, rfl, _⟩ := h
    exact key τ i hi hz hp hm
  · cases h

/-- The component of a tuple. -/
theorem compAt_rep {S : Nat → Prop} : ∀ (n : Nat) (τ : Ty) (d : D) (t : Ty) (d' : D) (τ' : Ty) (O : Nat → Prop) (cs : List Value), compAt n τ d = some (t, d', τ') → rep w S τ O d cs →
    ∃ v c, cs[n]? = some v ∧ v = mkV t c ∧ mkV τ cs = .tuple cs.toArray ∧ mkV τ' cs = .tuple cs.toArray ∧ ∃ f : Nat → Bool, rep w S t (fun b => O b ∧ f b = true) d' c ∧ rep w S τ' (fun b => O b ∧ f b = false) d cs
  | 0, τ, d, t, d', τ', O, cs, h, hr => by
    cases τ <;> simp only [compAt, Option.some.injEq, Prod.mk.injEq, reduceCtorEq] at h
    rename_i a b
    obtain ⟨rfl, rfl, rfl⟩ := h
    obtain ⟨c1, c2, f, rfl, h1, h2⟩ := hr
    refine ⟨_, c1, rfl, rfl, rfl, rfl, f, h1, ?_⟩
    cases ho : a.hasOwn with
    | true => exact ⟨[mkV a c1], c2, fun _ => false, rfl, trivial, rep_mono (fun _ h => ⟨h, rfl⟩) _ _ _ _ _ (fun b hb => ⟨⟨hb, rfl⟩, rfl⟩) h2⟩
    | false => exact ⟨c1, c2, fun _ => false, rfl, rep_of_rd _ _ _ _ ho (rd_of_rep ho h1), rep_mono (fun _ h => ⟨h, rfl⟩) _ _ _ _ _ (fun b hb => ⟨⟨hb, rfl⟩, rfl⟩) h2⟩
  | n + 1, τ, d, t, d', τ', O, cs, h, hr => by
    cases τ <;> simp only [compAt, Option.map_eq_some_iff, Prod.mk.injEq, reduceCtorEq] at h
    rename_i a b
    obtain ⟨⟨t0, d0, τ0⟩, h, rfl, rfl, rfl⟩ := h
    obtain ⟨c1, c2, f, rfl, h1, h2⟩ := hr
    obtain ⟨v, c, g1, g2, _, _, f2, g3, g4⟩ := compAt_rep n b d.snd _ _ _ _ _ h h2
    refine ⟨v, c, by simpa using g1, g2, rfl, rfl, fun x => !f x && f2 x, rep_mono (fun _ h => ⟨h, rfl⟩) _ _ _ _ _ (fun b hb => ⟨⟨hb.1.1, by simp [hb.1.2, hb.2]⟩, rfl⟩) g3, c1, c2, f, rfl, ?_, ?_⟩
    · exact rep_mono (fun _ h => ⟨h, rfl⟩) _ _ _ _ _ (fun b hb => ⟨⟨⟨hb.1, by simp [hb.2]⟩, hb.2⟩, rfl⟩) h1
    · exact rep_mono (fun _ h => ⟨h, rfl⟩) _ _ _ _ _ (fun b hb => ⟨⟨⟨hb.1.1, by simp [hb.2]⟩, hb.1.2⟩, rfl⟩) g4


theorem extractE_ok {x : Operand} {n : Nat} (hA : A.prot = C.prot) (R : Rel C F ow a w) (ho : o.op = .extract x n) (h : extractE A x n F = some (F1, e, vc)) (hv : vc) : OpOk P C o a w F1 e := by
  unfold extractE at h
  split at h
  · rename_i s
    rw [Option.bind_eq_some_iff] at h
    obtain ⟨e0, he, h⟩ := h
    split at h
    · rename_i τ d
      rw [Option.bind_eq_some_iff] at h
      obtain ⟨⟨t, d', τ'⟩, hc, h⟩ := h
      replace h := bind_guard h; obtain ⟨hp, h⟩ := h
      obtain ⟨cs, e1, h1⟩ := R.ents s _ he
      obtain ⟨v, c, g1, g2, g3, g4, f, h2, h3⟩ := compAt_rep _ _ _ _ _ _ _ _ hc h1
      have hs := R.lt s _ he
      have hnp : s ∉ C.prot := by rw [← hA]; intro hm; simp at hp; exact hp hm
      have hrun : (execOp a.eval o).run P w = .ok (.value v) w := by
        have hcs : cs.toArray[n]? = some v := by simpa using g1
        simp [execOp, ho, eval_tmp, e1, g3, Instr.extract, g1]
      simp only at h
      split at h
      · rename_i hown
        simp only [res, Option.some.injEq, Prod.mk.injEq] at h
        obtain ⟨rfl, rfl, _⟩ := h
        -- the component's blocks become slot n's
        let ow' : Nat → Option Nat := fun b => if ow b = some s ∧ f b = true then some C.n else ow b
        have k1 : ∀ b r, ow b = some r → r ≠ s → ow' b = some r := fun b r hb hne => by
          show (if _ then _ else _) = _
          rw [if_neg (fun h => hne (by rw [hb] at h; simpa using h.1))]; exact hb
        have k2 : ∀ b, ow b = some s ∧ f b = true → ow' b = some C.n := fun b hb => if_pos hb
        have k3 : ∀ b, ow b = some s ∧ f b = false → ow' b = some s := fun b hb => by
          show (if _ then _ else _) = _
          rw [if_neg (fun h => by rw [hb.2] at h; cases h.2)]; exact hb.1
        have hst : ∀ b, Stb C ow w b → Stb C ow' w b := fun b hb => ⟨hb.1, hb.2.1, by
          show (if _ then _ else _) = _
          rw [if_neg (fun h => by rw [hb.2.2] at h; cases h.1)]; exact hb.2.2⟩
        have hents : ∀ q e', F.put s (.val τ' d) q = some e' → EntOk w (Stb C ow' w) ow' (tmOf a) (tmOf a q) q e' := by
          intro q e' h
          rcases put_some h with ⟨rfl, rfl⟩ | ⟨hq, hF, hr⟩
          · exact ⟨cs, by rw [e1, g3, g4], rep_mono (fun b hb => ⟨hst b hb, rfl⟩) _ _ _ _ _ (fun b hb => ⟨k3 b hb, rfl⟩) h3⟩
          · exact EntOk.mono (fun b hb => ⟨hst b hb, rfl⟩) (fun _ _ _ b hb => ⟨k1 b q hb hq, rfl⟩) (fun r hr' => ⟨rfl, fun b hb => ⟨k1 b r hb (fun e => hr (by rw [hr', e])), rfl⟩⟩) (R.ents q e' hF)
        refine ⟨v, w, hrun, ow', { R with ents := hents, root := ?_, lt := ?_, own := ?_ }, ⟨c, g2, rep_mono (fun b hb => ⟨hst b hb, rfl⟩) _ _ _ _ _ (fun b hb => ⟨k2 b hb, rfl⟩) h2⟩, fun r hr => by cases hr⟩
        · intro q e' r h hr
          rcases put_some h with ⟨rfl, rfl⟩ | ⟨_, hF, _⟩
          · cases hr
          · exact R.root q e' r hF hr
        · intro q e' h
          rcases put_some h with ⟨rfl, rfl⟩ | ⟨_, hF, _⟩
          · exact hs
          · exact R.lt q e' hF
        · intro b q hb
          by_cases hbs : ow b = some s ∧ f b = true
          · rw [k2 b hbs] at hb
            obtain ⟨l1, l2⟩ := R.own b s hbs.1
            exact ⟨l1, .inr (l2.resolve_left fun h => hnp h.1)⟩
          · have : ow' b = ow b := if_neg hbs
            rw [this] at hb
            exact R.own b q hb
      · rename_i hown
        simp only [res, Option.some.injEq, Prod.mk.injEq] at h
        obtain ⟨rfl, rfl, _⟩ := h
        exact ⟨v, w, hrun, Left.of_rd R hown g2 (rd_of_rep hown h2)⟩
    · cases h
  · cases h

/-- What is captured: frozen boxes. -/
theorem capAll_ok (hA : A.prot = C.prot) : ∀ (xs : List Operand) (F F1 : Fr) (ow : Nat → Option Nat) (ts : List (Ty × D)), Rel C F ow a w → capAll A F xs = some (F1, ts) →
    ∃ ow1, Rel C F1 ow1 a w ∧ (∀ b, Stb C ow w b → Stb C ow1 w b) ∧ ∃ cv, xs.map a.eval = cv ∧ rd w (Stb C ow1 w) (pairAll ts).1 (pairAll ts).2 cv
  | [], F, F1, ow, ts, R, h => by
    simp only [capAll, Option.some.injEq, Prod.mk.injEq] at h
    obtain ⟨rfl, rfl⟩ := h
    exact ⟨ow, R, fun _ h => h, [], rfl, rfl⟩
  | x :: xs, F, F1, ow, ts, R, h => by
    cases x with
    | tmp s =>
      simp only [capAll] at h
      rw [Option.bind_eq_some_iff] at h
      obtain ⟨e0, he, h⟩ := h
      split at h
      · rename_i ob τ d0
        rw [Option.bind_eq_some_iff] at h
        obtain ⟨F2, hF2, h⟩ := h
        rw [Option.bind_eq_some_iff] at h
        obtain ⟨e1, he1, h⟩ := h
        split at h
        · rename_i t d
          simp only [Option.map_eq_some_iff] at h
          obtain ⟨⟨F3, ts'⟩, hxs, h⟩ := h
          simp only [Prod.mk.injEq] at h
          obtain ⟨rfl, rfl⟩ := h
          obtain ⟨t0, d1, hF0, _, hF2'⟩ := freeze_some hF2
          rw [he] at hF0
          cases hF0
          have h2 : F2 s = some (.val (Ty.bx ob τ).frz d0) := by rw [hF2']; simp
          rw [he1] at h2
          cases h2
          obtain ⟨R2, _, hst⟩ := R.freeze hA hF2
          obtain ⟨ow2, R3, hst2, cv, hcv, hrd⟩ := capAll_ok hA xs F2 F3 _ ts' R2 hxs
          obtain ⟨cs, k1, k2⟩ := R2.ents s _ he1
          have k3 : rd w (Stb C (give ow s none) w) (.bx false τ.frz) d0 cs := k2
          obtain ⟨aa, cells, rfl, k4⟩ := k3
          refine ⟨ow2, R3, fun b hb => hst2 b (hst b (.inl hb)), a.eval (.tmp s) :: xs.map a.eval, rfl, [a.eval (.tmp s)], xs.map a.eval, rfl, rfl, ?_, by rw [hcv]; exact hrd⟩
          rw [eval_tmp, k1]
          exact rd_mono (fun b hb => ⟨hst2 b hb, rfl⟩) (.bx false τ.frz) _ _ ⟨aa, cells, rfl, k4⟩
        · cases h
      · cases h
    | const v => simp [capAll] at h
    | func f => simp [capAll] at h
    | global g => simp [capAll] at h

theorem makeFuncE_ok {fn : Fn} {first captured : Array Operand} (hA : A.prot = C.prot) (R : Rel C F ow a w) (ho : o.op = .makeFunc fn first captured)
    (h : makeFuncE A fn first.toList captured.toList F = some (F1, e, vc)) (hv : vc) : OpOk P C o a w F1 e := by
  unfold makeFuncE at h
  split at h
  · rename_i f hf
    rw [Option.bind_eq_some_iff] at h
    obtain ⟨⟨F2, ts⟩, hc, h⟩ := h
    simp only [res, Option.some.injEq, Prod.mk.injEq] at h
    obtain ⟨rfl, rfl, _⟩ := h
    obtain ⟨ow1, R1, _, cv, hcv, hrd⟩ := capAll_ok hA _ _ _ _ _ R hc
    have hf' : first = #[] := by apply Array.ext'; simpa using hf
    subst hf'
    refine ⟨.func (.func f) #[] cv.toArray, w, ?_, Left.of_rd R1 rfl (cs := [.func (.func f) #[] cv.toArray]) rfl ⟨cv, rfl, hrd⟩⟩
    have : captured.map a.eval = cv.toArray := by apply Array.ext'; simpa using hcv
    simp [execOp, ho, Instr.makeFunc, this]
  · cases h

end
end Go.Pi
