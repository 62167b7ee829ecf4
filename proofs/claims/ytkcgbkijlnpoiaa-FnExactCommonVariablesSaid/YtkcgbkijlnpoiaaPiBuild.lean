/- A struct that is built. -/
import Derived.Test.YtkcgbkijlnpoiaaPiMake2
import Derived.Great.FillDense
namespace Go.Pi

section
variable {P : Program} {C : Ctx} {T : Nat → TI} {A : Ann} {F F1 : Fr} {ow : Nat → Option Nat} {a : Act} {w : World} {e : Ent} {vc : Prop} {o : Oper}

theorem zeros_frz : ∀ t : Ty, t.frz.zeros = t.zeros
  | .pair a b => by simp [Ty.frz, Ty.zeros, zeros_frz a, zeros_frz b]
  | .int _ | .bool | .str | .unit | .sl .. | .bx .. | .clo .. | .tnil | .tcons .. | .gone | .hole | .iter => rfl

theorem zeros_len : ∀ t : Ty, t.plainZ = true → t.zeros.length = t.size
  | .pair a b, h => by
    simp only [Ty.plainZ, Bool.and_eq_true] at h
    simp [Ty.zeros, Ty.size, zeros_len a h.1, zeros_len b h.2]
  | .int _, _ | .bool, _ | .str, _ | .unit, _ | .sl .., _ => rfl
  | .bx .., h | .clo .., h | .tnil, h | .tcons .., h | .gone, h | .hole, h | .iter, h => by cases h

theorem fill_one {place : Nat → Option (Nat × Nat)} {i : Nat} {v : Value} {rest : List (Nat × Value)} {pre old new post : List Value} (hp : place i = some (pre.length, new.length)) (hv : v.cells = new.toArray) (hl : old.length = new.length) :
    Instr.fill place (pre ++ old ++ post).toArray ((i, v) :: rest) = Instr.fill place (pre ++ new ++ post).toArray rest := by
  conv => lhs; unfold Instr.fill
  rw [hp]
  simp only
  rw [hv, if_neg (by simp [hl])]
  congr 1
  obtain ⟨g1, g2⟩ := Great.foldl_set pre.length new 0 (pre ++ old ++ post).toArray
  rw [← Array.foldl_toList, Array.toList_zipIdx]
  apply Array.ext_getElem?
  intro k
  rw [g2 k]
  simp only [Nat.add_zero, List.size_toArray, List.length_append]
  simp only [List.getElem?_toArray]
  by_cases h1 : k < pre.length
  · rw [if_neg (by omega), List.append_assoc, List.append_assoc, List.getElem?_append_left h1, List.getElem?_append_left h1]
  · by_cases h2 : k < pre.length + new.length
    · rw [if_pos (by omega), List.append_assoc, List.getElem?_append_right (by omega), List.getElem?_append_left (by omega)]
    · rw [if_neg (by omega), List.getElem?_append_right (by simp; omega), List.getElem?_append_right (by simp; omega)]
      simp [hl]

theorem fieldsE_ok (hT : TOk P T) (hA : A.prot = C.prot) : ∀ (fs : List (Nat × Nat)) (n o : Nat) (ps : List (Nat × Operand)) (F F1 : Fr) (ow : Nat → Option Nat) (ts : List (Ty × D)) (τr : Ty), Rel C F ow a w → fieldsE T A fs n o ps F = some (F1, ts) →
    (pairAll ts).1.frz = τr.frz → τr.plainZ = true →
    (∀ p ∈ fs, ∃ inf, P.info? p.2 = some inf) ∧ ∃ ow1 cs, Rel C F1 ow1 a w ∧ (∀ b, ow b = some C.n → ow1 b = some C.n) ∧ (∀ b, Stb C ow w b → Stb C ow1 w b) ∧
      rep w (Stb C ow1 w) (pairAll ts).1 (fun b => ow1 b = some C.n ∧ ¬ ow b = some C.n) (pairAll ts).2 cs ∧
      ∀ (place : Nat → Option (Nat × Nat)) (pre : List Value), pre.length = o → (∀ i p inf, fs[i]? = some p → P.info? p.2 = some inf → place (n + i) = some (p.1, inf.size)) →
        Instr.fill place (pre ++ τr.zeros).toArray (ps.map fun p => (p.1, a.eval p.2)) = some (pre ++ cs).toArray
  | [], n, o, ps, F, F1, ow, ts, τr, R, h, hτ, hz => by
    cases ps with
    | cons p ps => simp [fieldsE] at h
    | nil =>
      simp only [fieldsE, Option.some.injEq, Prod.mk.injEq] at h
      obtain ⟨rfl, rfl⟩ := h
      refine ⟨(fun p hp => by cases hp), ow, [], R, fun _ h => h, fun _ h => h, rfl, fun place pre _ _ => ?_⟩
      cases τr <;> simp [pairAll, Ty.frz] at hτ
      simp [Ty.zeros, Instr.fill]
  | (off, tf) :: fs, n, o, ps, F, F1, ow, ts, τr, R, h, hτ, hz => by
    have zero : ∀ (z : Ty × D) (ps' : List (Nat × Operand)), (match T tf with | .base τ => some (τ, τ.zero) | .slice _ _ e => some (Ty.sl true e, D.l [] true) | _ => none) = some z → off = o →
        ((fieldsE T A fs (n + 1) (o + z.1.size) ps' F).map fun r => (r.1, z :: r.2)) = some (F1, ts) →
        (∀ p ∈ (off, tf) :: fs, ∃ inf, P.info? p.2 = some inf) ∧ ∃ ow1 cs, Rel C F1 ow1 a w ∧ (∀ b, ow b = some C.n → ow1 b = some C.n) ∧ (∀ b, Stb C ow w b → Stb C ow1 w b) ∧
          rep w (Stb C ow1 w) (pairAll ts).1 (fun b => ow1 b = some C.n ∧ ¬ ow b = some C.n) (pairAll ts).2 cs ∧
          ∀ (place : Nat → Option (Nat × Nat)) (pre : List Value), pre.length = o → (∀ i p inf, ((off, tf) :: fs)[i]? = some p → P.info? p.2 = some inf → place (n + i) = some (p.1, inf.size)) →
            Instr.fill place (pre ++ τr.zeros).toArray (ps'.map fun p => (p.1, a.eval p.2)) = some (pre ++ cs).toArray := by
      intro z ps' hz0 hoff h
      simp only [Option.map_eq_some_iff, Prod.mk.injEq] at h
      obtain ⟨⟨F2, ts'⟩, hfs, rfl, rfl⟩ := h
      have hzz : z.1.plainZ = true ∧ z.2 = z.1.zero ∧ ∃ inf, P.info? tf = some inf := by
        have h1 := hT tf
        cases ht : T tf with
        | none => rw [ht] at hz0; cases hz0
        | struct fs τ => rw [ht] at hz0; cases hz0
        | base τ =>
          rw [ht] at hz0 h1
          simp only [Option.some.injEq] at hz0
          subst hz0
          obtain ⟨inf, hi, _, hp, _⟩ := h1
          exact ⟨hp, rfl, inf, hi⟩
        | slice e0 bytes et =>
          rw [ht] at hz0 h1
          simp only [Option.some.injEq] at hz0
          subst hz0
          obtain ⟨inf, _, hi, _⟩ := h1
          exact ⟨rfl, rfl, inf, hi⟩
      obtain ⟨z1, z2, inf, hinf⟩ := hzz
      obtain ⟨x, y, rfl⟩ : ∃ x y, τr = .pair x y := by cases τr <;> simp [pairAll, Ty.frz] at hτ; exact ⟨_, _, rfl⟩
      simp only [pairAll, Ty.frz, Ty.pair.injEq] at hτ
      simp only [Ty.plainZ, Bool.and_eq_true] at hz
      obtain ⟨k1, ow1, cs, R1, k2, k3, k4, k5⟩ := fieldsE_ok hT hA fs (n + 1) (o + z.1.size) ps' F F2 ow ts' y R hfs hτ.2 hz.2
      have hzx : z.1.zeros = x.zeros := by rw [← zeros_frz, hτ.1, zeros_frz]
      have hzs : z.1.zeros.length = z.1.size := zeros_len _ z1
      refine ⟨fun p hp => ?_, ow1, z.1.zeros ++ cs, R1, k2, k3, ⟨z.1.zeros, cs, fun _ => false, rfl, hzs, ?_, rep_mono (fun b hb => ⟨hb, rfl⟩) _ _ _ _ _ (fun b hb => ⟨⟨hb, rfl⟩, rfl⟩) k4⟩, fun place pre hpre hplace => ?_⟩
      · rcases List.mem_cons.mp hp with rfl | hp
        · exact ⟨inf, hinf⟩
        · exact k1 p hp
      · show rep w _ z.1 _ z.2 _
        rw [z2]
        exact (zeros_rep z.1 z1).1
      · have := k5 place (pre ++ x.zeros) (by rw [List.length_append, ← hzx, hzs, hpre]) (fun i p inf hi hp => by
          have := hplace (i + 1) p inf (by simpa using hi) hp
          rwa [show n + (i + 1) = n + 1 + i by omega] at this)
        rw [show (Ty.pair x y).zeros = x.zeros ++ y.zeros from rfl, ← List.append_assoc, this, hzx, List.append_assoc]
    unfold fieldsE at h
    replace h := bind_guard h; obtain ⟨hoff, h⟩ := h
    have hoff := Nat.eq_of_beq_eq_true hoff
    simp only at h
    split at h
    · rename_i i x ps'
      split at h
      · rename_i hi
        have hi := Nat.eq_of_beq_eq_true hi
        rw [Option.bind_eq_some_iff] at h
        obtain ⟨⟨F2, t, d⟩, hx, h⟩ := h
        replace h := bind_guard h; obtain ⟨hfit, h⟩ := h
        simp only [Option.map_eq_some_iff, Prod.mk.injEq] at h
        obtain ⟨⟨F3, ts'⟩, hfs, rfl, rfl⟩ := h
        simp only at hfit
        obtain ⟨hm, ow1, cs1, R1, k1, k2, e1, h1⟩ := absorb_ok R hA hx
        obtain ⟨inf, hinf, hsz, _⟩ := fits_info hT hfit
        obtain ⟨x', y, rfl⟩ : ∃ x y, τr = .pair x y := by cases τr <;> simp [pairAll, Ty.frz] at hτ; exact ⟨_, _, rfl⟩
        simp only [pairAll, Ty.frz, Ty.pair.injEq] at hτ
        simp only [Ty.plainZ, Bool.and_eq_true] at hz
        obtain ⟨g1, ow2, cs, R2, g2, g3, g4, g5⟩ := fieldsE_ok hT hA fs (n + 1) (o + t.size) ps' F2 F3 ow1 ts' y R1 hfs hτ.2 hz.2
        obtain ⟨l1, l2⟩ := rep_len hm h1
        have hxs : x'.zeros.length = t.size := by rw [zeros_len x' hz.1, ← size_frz t, hτ.1, size_frz]
        refine ⟨fun p hp => ?_, ow2, cs1 ++ cs, R2, fun b hb => g2 b (k1 b hb), fun b hb => g3 b (k2 b hb), ⟨cs1, cs, fun b => decide (ow1 b = some C.n), rfl, l1, ?_, ?_⟩, fun place pre hpre hplace => ?_⟩
        · rcases List.mem_cons.mp hp with rfl | hp
          · exact ⟨inf, hinf⟩
          · exact g1 p hp
        · exact rep_mono (fun b hb => ⟨g3 b hb, rfl⟩) _ _ _ _ _ (fun b hb => ⟨⟨⟨g2 b hb.1, hb.2⟩, by simpa using hb.1⟩, rfl⟩) h1
        · exact rep_mono (fun b hb => ⟨hb, rfl⟩) _ _ _ _ _ (fun b hb => ⟨⟨⟨hb.1, fun hn => hb.2 (k1 b hn)⟩, by simpa using hb.2⟩, rfl⟩) g4
        · have hp0 := hplace 0 (off, tf) inf rfl hinf
          rw [Nat.add_zero] at hp0
          simp only [hoff, hsz] at hp0
          have hf := fill_one (rest := ps'.map fun p => (p.1, a.eval p.2)) (pre := pre) (old := x'.zeros) (new := cs1) (post := y.zeros) (place := place) (i := n) (v := a.eval x)
            (by rw [hp0, hpre, l1]) (by rw [e1]; exact mkV_cells hm l1 l2) (by rw [hxs, l1])
          have := g5 place (pre ++ cs1) (by rw [List.length_append, hpre, l1]) (fun i p inf hi hp => by
            have := hplace (i + 1) p inf (by simpa using hi) hp
            rwa [show n + (i + 1) = n + 1 + i by omega] at this)
          rw [show (Ty.pair x' y).zeros = x'.zeros ++ y.zeros from rfl, ← List.append_assoc, List.map_cons, hi, hf, this, List.append_assoc]
      · rw [Option.bind_eq_some_iff] at h
        obtain ⟨z, hz0, h⟩ := h
        exact zero z _ hz0 hoff h
    · rw [Option.bind_eq_some_iff] at h
      obtain ⟨z, hz0, h⟩ := h
      exact zero z _ hz0 hoff h

theorem places_run : ∀ (gs : List Field), (∀ g ∈ gs, ∃ inf, P.info? g.type = some inf) → ∃ pl : List (Nat × Nat), (gs.mapM fun (f : Field) => Prod.mk f.offset <$> sizeOf f.type : Sem (List (Nat × Nat))).run P w = .ok pl w ∧
    ∀ (i : Nat) (g : Field) (inf : TypeInfo), gs[i]? = some g → P.info? g.type = some inf → pl[i]? = some (g.offset, inf.size)
  | [], _ => ⟨[], by simp, fun i g inf h => by simp at h⟩
  | g :: gs, h => by
    obtain ⟨pl, h1, h2⟩ := places_run gs (fun g hg => h g (by simp [hg]))
    obtain ⟨inf, hinf⟩ := h g (by simp)
    refine ⟨(g.offset, inf.size) :: pl, ?_, fun i g' inf' hi hinf' => ?_⟩
    · have h0 : (Prod.mk g.offset <$> sizeOf g.type : Sem _).run P w = .ok (g.offset, inf.size) w := by simp [sizeOf, typeInfo, hinf]
      rw [List.mapM_cons, Sem.run_bind, h0]
      simp only [Result.andThen]
      rw [Sem.run_bind, h1]
      simp [Result.andThen]
    · cases i with
      | zero =>
        simp only [List.getElem?_cons_zero, Option.some.injEq] at hi
        subst hi
        rw [hinf] at hinf'
        simp only [Option.some.injEq] at hinf'
        subst hinf'
        rfl
      | succ i => simp only [List.getElem?_cons_succ] at hi ⊢; exact h2 i g' inf' hi hinf'

theorem buildE_ok {t : Nat} {ps : Array (Nat × Operand)} (hT : TOk P T) (hA : A.prot = C.prot) (R : Rel C F ow a w) (ho : o.op = .build t ps)
    (h : buildE T A t ps.toList F = some (F1, e, vc)) : OpOk P C o a w F1 e := by
  unfold buildE at h
  split at h
  · rename_i fs τ ht
    rw [Option.bind_eq_some_iff] at h
    obtain ⟨⟨F2, ts⟩, hfs, h⟩ := h
    replace h := bind_guard h; obtain ⟨hk, h⟩ := h
    have hk := of_decide_eq_true hk
    simp only [res, Option.some.injEq, Prod.mk.injEq] at h
    obtain ⟨rfl, rfl, _⟩ := h
    have h1 := hT t
    rw [ht] at h1
    obtain ⟨i, gs, hi, hu, hs, hz, hagg, hzero, hgs, _, _, hmem⟩ := h1
    obtain ⟨k1, ow1, cs, R1, k2, k3, k4, k5⟩ := fieldsE_ok hT hA fs 0 0 ps.toList F F2 ow ts τ R hfs hk hz
    obtain ⟨pl, hpl, hpli⟩ := places_run (w := w) (P := P) gs.toList (fun g hg => k1 (g.offset, g.type) (by rw [← hgs]; exact List.mem_map_of_mem hg))
    have hfill := k5 (pl.toArray[·]?) [] rfl (fun j p inf hj hp => by
      rw [← hgs, List.getElem?_map] at hj
      cases hg : gs.toList[j]? with
      | none => rw [hg] at hj; cases hj
      | some g =>
        rw [hg] at hj
        simp only [Option.map_some, Option.some.injEq] at hj
        subst hj
        rw [Nat.zero_add]
        simpa using hpli j g inf hg hp)
    simp only [List.nil_append] at hfill
    have hza : mkV τ τ.zeros = .agg τ.zeros.toArray := by cases τ <;> simp_all [Ty.isAgg, mkV]
    have hres : (pairAll ts).1.isAgg = true := by
      cases ts with
      | nil => rfl
      | cons p r => rfl
    have hv : mkV (pairAll ts).1 cs = .agg cs.toArray := by
      cases ts with
      | nil => rfl
      | cons p r => rfl
    have hgt : gs = gs.toList.toArray := by simp
    have hrun : (Instr.build t (ps.map fun (i, x) => (i, a.eval x))).run P w = .ok (.agg cs.toArray) w := by
      have hp : (ps.map fun (x : Nat × Operand) => (x.1, a.eval x.2)).toList = ps.toList.map fun p => (p.1, a.eval p.2) := by simp
      have hm : (gs.mapM fun (f : Field) => Prod.mk f.offset <$> sizeOf f.type : Sem (Array (Nat × Nat))).run P w = .ok pl.toArray w := by
        rw [hgt, List.mapM_toArray, Sem.run_map, hpl]
        rfl
      have hfill2 : Instr.fill (pl.toArray[·]?) τ.zeros.toArray (ps.map fun (x : Nat × Operand) => (x.1, a.eval x.2)).toList = some cs.toArray := by rw [hp]; exact hfill
      unfold Instr.build
      simp only [Sem.run_bind, run_underlying hu, zeroValue, typeInfo]
      simp [hi, hzero, hza, Value.cells]
      rw [hm]
      simp only [Result.andThen]
      rw [hfill]
      simp
    exact ⟨.agg cs.toArray, w, by simp [execOp, ho, hrun], ow1, R1, ⟨cs, hv.symm, rep_mono (fun b hb => ⟨hb, rfl⟩) _ _ _ _ _ (fun b hb => ⟨hb.1, rfl⟩) k4⟩, fun r hr => by cases hr⟩
  · cases h

end
end Go.Pi
