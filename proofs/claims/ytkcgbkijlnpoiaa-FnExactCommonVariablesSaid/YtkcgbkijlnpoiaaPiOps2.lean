/- Each operation does what the generator says: numbers, bools, strings. -/
import Derived.Test.YtkcgbkijlnpoiaaPiOps
import Derived.Laws.BytesArg
import Derived.Laws.BytesString
import Derived.Laws.StructEq
namespace Go.Pi

theorem run_exec_bin (P : Program) (o : Oper) (a : Act) (w : World) (op : BinOp) (tx ty : TypeId) (x y : Operand) (ho : o.op = .binOp op tx x y ty) (v : Value)
    (hg : (eqGuard op tx x y (a.eval x) (a.eval y)).run P w = .ok () w) (h : (binOp op tx (a.eval x) (a.eval y)).run P w = .ok v w) :
    (execOp a.eval o).run P w = .ok (.value v) w := by
  simp [execOp, ho, hg, h]

theorem eqGuard_int (P : Program) (w : World) (op : BinOp) (tx : TypeId) (x y : Operand) (k k' : IntKind) (n m : Int) : (eqGuard op tx x y (.int k n) (.int k' m)).run P w = .ok () w := by
  unfold eqGuard; cases op <;> simp
theorem eqGuard_str (P : Program) (w : World) (op : BinOp) (tx : TypeId) (x y : Operand) (n m : ByteArray) : (eqGuard op tx x y (.string n) (.string m)).run P w = .ok () w := by
  unfold eqGuard; cases op <;> simp
theorem eqGuard_bool (P : Program) (w : World) (op : BinOp) (tx : TypeId) (x y : Operand) (n m : Bool) : (eqGuard op tx x y (.bool n) (.bool m)).run P w = .ok () w := by
  unfold eqGuard; cases op <;> simp
theorem eqGuard_sl (P : Program) (w : World) (op : BinOp) (tx : TypeId) (x y : Operand) (A B : Option Addr) (n m c c' : Nat) : (eqGuard op tx x y (.slice A n c) (.slice B m c')).run P w = .ok () w := by
  unfold eqGuard; cases op <;> simp

theorem intBin_run {P : Program} {w : World} {op : BinOp} {k : IntKind} {n m : Int} {r : D} {tx : TypeId} (h : intBin op k n m = some r) :
    ∃ q, r = .i q ∧ (binOp op tx (.int k n) (.int k m)).run P w = .ok (.int k q) w := by
  cases op <;> simp only [intBin, Option.some.injEq, reduceCtorEq] at h <;> subst h <;> refine ⟨_, rfl, ?_⟩ <;> simp [binOp, Op.intArith, Op.intBits]

theorem intCmp_run {P : Program} {w : World} {op : BinOp} {k : IntKind} {n m : Int} {r : D} {tx : TypeId} (h : intCmp op n m = some r) :
    ∃ q, r = .b q ∧ (binOp op tx (.int k n) (.int k m)).run P w = .ok (.bool q) w := by
  cases op <;> simp only [intCmp, Option.some.injEq, reduceCtorEq] at h <;> subst h <;> refine ⟨_, rfl, ?_⟩ <;> simp [binOp, Op.intCmp]

theorem strCmp_run {P : Program} {w : World} {op : BinOp} {n m : ByteArray} {r : D} {tx : TypeId} (h : strCmp op n m = some r) :
    ∃ q, r = .b q ∧ (binOp op tx (.string n) (.string m)).run P w = .ok (.bool q) w := by
  cases op <;> simp only [strCmp, Option.some.injEq, reduceCtorEq] at h <;> subst h <;> refine ⟨_, rfl, ?_⟩ <;> simp [binOp, Op.stringOp]

theorem run_underlying' {P : Program} {t : TypeId} {d : TypeDesc} (h : P.underlying t = some d) (w : World) : (underlying t).run P w = .ok d w := run_underlying h w

section
variable {P : Program} {C : Ctx} {T : Nat → TI} {F F1 : Fr} {ow : Nat → Option Nat} {a : Act} {w : World} {e : Ent} {vc : Prop} {o : Oper}

theorem unE_ok {op : UnOp} {tx : Nat} {x : Operand} (R : Rel C F ow a w) (ho : o.op = .unOp op tx x) (h : unE T op tx x F = some (F1, e, vc)) (hv : vc) : OpOk P C o a w F1 e := by
  unfold unE at h
  rw [Option.bind_eq_some_iff] at h
  obtain ⟨⟨t, d⟩, hx, h⟩ := h
  cases op <;> cases t <;> simp only [res, Option.some.injEq, Prod.mk.injEq, reduceCtorEq] at h
  all_goals (obtain ⟨rfl, rfl, _⟩ := h)
  · exact ⟨_, w, by simp [execOp, ho, view_int R hx, Op.unary, Op.intArith], Left.int _ _ R⟩
  · exact ⟨_, w, by simp [execOp, ho, view_bool R hx, Op.unary], Left.bool _ R⟩

theorem convE_ok {s t : Nat} {x : Operand} (hT : TOk P T) (R : Rel C F ow a w) (ho : o.op = .convert s t x) (h : convE T s t x F = some (F1, e, vc)) (hv : vc) : OpOk P C o a w F1 e := by
  unfold convE at h
  rw [Option.bind_eq_some_iff] at h
  obtain ⟨⟨q, d⟩, hx, h⟩ := h
  have h1 := hT s
  have h2 := hT t
  simp only at h
  split at h
  · rename_i hs ht
    simp only [res, Option.some.injEq, Prod.mk.injEq] at h
    obtain ⟨rfl, rfl, _⟩ := h
    rw [hs] at h1; rw [ht] at h2
    obtain ⟨_, _, _, _, _, h1⟩ := h1
    obtain ⟨_, _, _, _, _, h2⟩ := h2
    exact ⟨_, w, by simp [execOp, ho, view_int R hx, convert, run_underlying h1, run_underlying h2, Conv.intToInt], Left.int _ _ R⟩
  · rename_i hs ht
    simp only [res, Option.some.injEq, Prod.mk.injEq] at h
    obtain ⟨rfl, rfl, _⟩ := h
    rw [hs] at h1; rw [ht] at h2
    obtain ⟨_, _, _, _, _, h1⟩ := h1
    obtain ⟨_, _, _, _, _, h2⟩ := h2
    exact ⟨.string d.toS, w, by simp [execOp, ho, view_str R hx, convert, run_underlying h1, run_underlying h2], Left.of_rd R rfl (cs := [.string d.toS]) rfl rfl⟩
  · rename_i e0 _ _ b hs ht
    split at h
    · rename_i hte
      simp only [res, Option.some.injEq, Prod.mk.injEq] at h
      obtain ⟨rfl, rfl, _⟩ := h
      have h3 := hT e0
      rw [hs] at h1; rw [ht] at h2; rw [hte] at h3
      obtain ⟨_, _, _, _, h1, _⟩ := h1
      obtain ⟨_, _, _, _, _, h2⟩ := h2
      obtain ⟨_, _, _, _, _, h3⟩ := h3
      obtain ⟨cs, e1, hl⟩ := view_look R hx
      obtain ⟨A0, cap, rfl, hel⟩ : ∃ A0 cap, cs = [.slice A0 d.toL.length cap] ∧ ∀ (i : Nat) (x : D), d.toL[i]? = some x → ∃ aa, A0 = some aa ∧ aa.spot = none ∧ w.cell? ⟨aa.block, aa.off + i, none⟩ = some (.int .u8 x.toI) := by
        have one : ∀ {A0 : Option Addr} {i : Nat} {x : D} {S' : Nat → Prop}, (∃ aa cells, A0 = some aa ∧ aa.spot = none ∧ S' aa.block ∧ cells.length = (Ty.int IntKind.u8).size ∧ cells = [Value.int .u8 x.toI] ∧ lies w aa.block (aa.off + i * (Ty.int IntKind.u8).size) cells) →
            ∃ aa, A0 = some aa ∧ aa.spot = none ∧ w.cell? ⟨aa.block, aa.off + i, none⟩ = some (.int .u8 x.toI) := by
          rintro A0 i x S' ⟨aa, cells, h1, h2, _, _, rfl, h6⟩
          have := h6 0 _ rfl
          exact ⟨aa, h1, h2, by simpa [Ty.size] using this⟩
        cases b with
        | true =>
          obtain ⟨A0, cap, rfl, _, _, _, hr⟩ := hl
          exact ⟨A0, cap, rfl, fun i x hx => one (hr i x hx)⟩
        | false =>
          obtain ⟨A0, cap, rfl, _, _, _, hr⟩ := hl
          exact ⟨A0, cap, rfl, fun i x hx => one (hr i x hx)⟩
      have e1 : a.eval x = .slice A0 d.toL.length cap := e1
      refine ⟨.string (strOfD d.toL), w, ?_, Left.of_rd R rfl (cs := [.string (strOfD d.toL)]) rfl rfl⟩
      have hstr : strOfD d.toL = strOfNums (d.toL.map D.toI) := by simp [strOfD, strOfNums]
      cases A0 with
      | none =>
        have hnil : d.toL = [] := by
          cases hd : d.toL with
          | nil => rfl
          | cons y r =>
            obtain ⟨_, h, _⟩ := hel 0 y (by rw [hd]; rfl)
            cases h
        have := run_convert_bytes_nil w s e0 h1 h3 0 cap t h2
        simp [execOp, ho, e1, this, hnil, strOfD]
        rfl
      | some aa =>
        obtain ⟨g, q, sp⟩ := aa
        by_cases hlen : d.toL.length = 0
        · have hnil : d.toL = [] := List.length_eq_zero_iff.mp hlen
          have := run_convert_bytes_string w s t e0 (some ⟨g, q, sp⟩) 0 cap h1 h3 h2
          simp [execOp, ho, e1, this, hnil, strOfD, Conv.bytesToString, loadCells, loadCellsFrom]
          rfl
        · obtain ⟨y, hy⟩ : ∃ y, d.toL[0]? = some y := ⟨d.toL[0]'(by omega), List.getElem?_eq_getElem _⟩
          obtain ⟨aa, haa, hsp, _⟩ := hel 0 y hy
          cases haa
          simp only at hsp
          subst hsp
          have := run_convert_bytes_arg w s e0 h1 h3 g q d.toL.length cap (d.toL.map D.toI) (by simp) (fun i hi => by
            obtain ⟨bb, hbb, _, hc⟩ := hel i d.toL[i] (List.getElem?_eq_getElem hi)
            cases hbb
            simp [List.getD, hi, hc]) t h2
          rw [hstr]
          simp [execOp, ho, e1, this]
    · cases h
  · cases h

theorem lenE_ok {t : Nat} {x : Operand} {ats : Array TypeId} {args : Array Operand} (hT : TOk P T) (R : Rel C F ow a w)
    (ho : o.op = .call { callee := .builtin .len, args, argTypes := ats }) (ha : args.toList = [x]) (ht : ats.toList = [t]) (h : lenE T t x F = some (F1, e, vc)) (hv : vc) : OpOk P C o a w F1 e := by
  have h1 := hT t
  have ha' : args = #[x] := by apply Array.ext'; simpa using ha
  have ht' : ats = #[t] := by apply Array.ext'; simpa using ht
  subst ha' ht'
  unfold lenE at h
  split at h
  · rename_i s d _ _ _ hs he
    simp only [res, Option.some.injEq, Prod.mk.injEq] at h
    obtain ⟨rfl, rfl, _⟩ := h
    rw [hs] at h1
    obtain ⟨_, _, _, _, h1, _⟩ := h1
    obtain ⟨B, cap, e1⟩ := R.ents s _ he
    exact ⟨_, w, by simp [execOp, ho, resolve, invoke, builtin, eval_tmp, e1, Builtin.len_, run_underlying h1, goInt], Left.int _ _ R⟩
  rw [Option.bind_eq_some_iff] at h
  obtain ⟨⟨q, d⟩, hx, h⟩ := h
  simp only at h
  split at h
  · rename_i hs
    simp only [res, Option.some.injEq, Prod.mk.injEq] at h
    obtain ⟨rfl, rfl, _⟩ := h
    rw [hs] at h1
    obtain ⟨_, _, _, _, _, h1⟩ := h1
    exact ⟨_, w, by simp [execOp, ho, resolve, invoke, builtin, view_str R hx, Builtin.len_, run_underlying h1, goInt], Left.int _ _ R⟩
  · rename_i hs
    simp only [res, Option.some.injEq, Prod.mk.injEq] at h
    obtain ⟨rfl, rfl, _⟩ := h
    rw [hs] at h1
    obtain ⟨_, _, _, _, h1, _⟩ := h1
    obtain ⟨A, cap, e1, _⟩ := view_sl R hx
    exact ⟨_, w, by simp [execOp, ho, resolve, invoke, builtin, e1, Builtin.len_, run_underlying h1, goInt], Left.int _ _ R⟩
  · cases h

theorem maxE_ok {m : Bool} {x y : Operand} {ats : Array TypeId} {args : Array Operand} (R : Rel C F ow a w)
    (ho : o.op = .call { callee := .builtin (if m then .max else .min), args, argTypes := ats }) (ha : args.toList = [x, y]) (h : maxE m T x y F = some (F1, e, vc)) (hv : vc) : OpOk P C o a w F1 e := by
  unfold maxE at h
  rw [Option.bind_eq_some_iff] at h
  obtain ⟨⟨q, d⟩, hx, h⟩ := h
  rw [Option.bind_eq_some_iff] at h
  obtain ⟨⟨q', d'⟩, hy, h⟩ := h
  have ha' : args = #[x, y] := by apply Array.ext'; simpa using ha
  subst ha'
  simp only at h
  split at h
  · rename_i k k'
    replace h := bind_guard h; obtain ⟨hk, h⟩ := h
    simp only [res, Option.some.injEq, Prod.mk.injEq] at h
    obtain ⟨rfl, rfl, _⟩ := h
    have hkk := of_decide_eq_true hk
    subst hkk
    have h1 := view_int R hx
    have h2 := view_int R hy
    cases m
    · refine ⟨_, w, ?_, Left.int _ _ R⟩
      simp [execOp, ho, resolve, invoke, builtin, h1, h2, Builtin.min_, Builtin.min2]
      split <;> omega
    · refine ⟨_, w, ?_, Left.int _ _ R⟩
      simp [execOp, ho, resolve, invoke, builtin, h1, h2, Builtin.max_, Builtin.max2]
      split <;> omega
  · cases h

theorem indexE_ok {t : Nat} {x ix : Operand} (hT : TOk P T) (R : Rel C F ow a w) (ho : o.op = .index t x ix) (h : indexE T t x ix F = some (F1, e, vc)) (hv : vc) : OpOk P C o a w F1 e := by
  unfold indexE at h
  split at h
  · rename_i ht
    rw [Option.bind_eq_some_iff] at h
    obtain ⟨⟨q, d⟩, hx, h⟩ := h
    rw [Option.bind_eq_some_iff] at h
    obtain ⟨⟨q', d'⟩, hy, h⟩ := h
    have h1 := hT t
    rw [ht] at h1
    obtain ⟨_, _, _, _, _, h1⟩ := h1
    simp only at h
    split at h
    · rename_i k
      simp only [resIf, Option.some.injEq, Prod.mk.injEq] at h
      obtain ⟨rfl, rfl, rfl⟩ := h
      have e1 := view_int R hx
      have e2 := view_str R hy
      have hlt : d.toI.toNat < d'.toS.size := by omega
      refine ⟨_, w, ?_, Left.int _ _ R⟩
      have hb : d'.toS[d.toI.toNat]? = some d'.toS[d.toI.toNat] := getElem?_pos d'.toS d.toI.toNat hlt
      simp [execOp, ho, e1, e2, Instr.index, asIntOf, run_underlying h1, hv.1, hb, byteAt]
    · cases h
  · cases h

theorem part_scalar {T : Nat → TI} (hT : TOk P T) {w : World} {t : Nat} {τ : Ty} (ht : T t = .base τ) (cs : Array Value) (off : Nat) (v : Value) (hv : cs[off]? = some v) : (part t cs off).run P w = .ok v w := by
  have h1 := hT t
  rw [ht] at h1
  obtain ⟨_, _, _, _, _, h1⟩ := h1
  cases τ <;> simp only at h1 <;> first | (simp [part, isAgg, run_underlying h1, hv]; done) | exact h1.elim

/-- Two structs of plain fields, field by field. -/
theorem deq_fields {T : Nat → TI} (hT : TOk P T) {w : World} {S X : Nat → Prop} (dp : Nat) : ∀ (gs : List Field) (off : Nat) (τ : Ty) (x y : D) (p1 p2 c1 c2 : List Value),
    (∀ g ∈ gs, g.name ≠ "_") → flatFields T (gs.map (fun g => (g.offset, g.type))) off τ = true → p1.length = off → p2.length = off → look w S X τ x c1 → look w S X τ y c2 →
    (Op.eqFields (dp + 1) (p1 ++ c1).toArray (p2 ++ c2).toArray gs).run P w = .ok (τ.deq x y) w
  | [], off, τ, x, y, p1, p2, c1, c2, _, hf, _, _, _, _ => by
    cases τ <;> simp [flatFields] at hf
    simp [Op.eqFields, Ty.deq]
  | g :: gs, off, τ, x, y, p1, p2, c1, c2, hn, hf, h1, h2, l1, l2 => by
    cases τ <;> simp only [flatFields, List.map_cons, Bool.false_eq_true] at hf
    rename_i A B
    split at hf
    · rename_i τ' hτ
      simp only [Bool.and_eq_true, decide_eq_true_eq] at hf
      obtain ⟨⟨⟨ho, rfl⟩, hs⟩, hf⟩ := hf
      have ho := Nat.eq_of_beq_eq_true ho
      obtain ⟨a1, b1, rfl, _, la1, lb1⟩ := l1
      obtain ⟨a2, b2, rfl, _, la2, lb2⟩ := l2
      have hu := hT g.type
      rw [hτ] at hu
      obtain ⟨_, _, _, _, _, hu⟩ := hu
      have one : ∃ v1 v2, a1 = [v1] ∧ a2 = [v2] ∧ (Op.equalIn (dp + 1) g.type v1 v2).run P w = .ok (τ'.deq x.fst y.fst) w := by
        cases τ' <;> simp only [Bool.false_eq_true] at hs hu
        · exact ⟨_, _, la1, la2, by rw [run_equalIn_int w dp g.type _ _ _ _ hu]; rfl⟩
        · exact ⟨_, _, la1, la2, by rw [run_equalIn_bool' w dp g.type _ _ hu]; rfl⟩
        · exact ⟨_, _, la1, la2, by simp [Op.equalIn, run_underlying hu, Ty.deq]⟩
      obtain ⟨v1, v2, rfl, rfl, he⟩ := one
      have q1 : (part g.type (p1 ++ ([v1] ++ b1)).toArray g.offset).run P w = .ok v1 w := part_scalar hT hτ _ _ _ (by simp [ho, ← h1])
      have q2 : (part g.type (p2 ++ ([v2] ++ b2)).toArray g.offset).run P w = .ok v2 w := part_scalar hT hτ _ _ _ (by simp [ho, ← h2])
      have ih := deq_fields hT (w := w) (S := S) (X := X) dp gs (off + 1) B x.snd y.snd (p1 ++ [v1]) (p2 ++ [v2]) b1 b2 (fun g hg => hn g (List.mem_cons_of_mem _ hg)) hf (by simp [h1]) (by simp [h2]) lb1 lb2
      rw [Op.eqFields, if_pos (hn g (List.mem_cons_self ..))]
      simp only [Sem.run_bind, q1, q2, he, Result.andThen_ok]
      cases hq : τ'.deq x.fst y.fst
      · simp [Ty.deq, hq]
      · simpa [Ty.deq, hq] using ih
    · cases hf

theorem guardType_flat {T : Nat → TI} (hT : TOk P T) (n : Nat) : ∀ (gs : List Field) (off : Nat) (τ : Ty), flatFields T (gs.map (fun g => (g.offset, g.type))) off τ = true →
    ∀ g ∈ gs, P.eqGuardType (n + 1) g.type = false
  | [], _, _, _, _, hg => by cases hg
  | g :: gs, off, τ, hf, g', hg => by
    cases τ <;> simp only [flatFields, List.map_cons, Bool.false_eq_true] at hf
    rename_i A B
    split at hf
    · rename_i τ' hτ
      simp only [Bool.and_eq_true, decide_eq_true_eq] at hf
      obtain ⟨⟨⟨_, rfl⟩, _⟩, hf⟩ := hf
      rcases List.mem_cons.mp hg with rfl | hg
      · have hu := hT g'.type
        rw [hτ] at hu
        obtain ⟨_, _, _, _, _, hu⟩ := hu
        cases τ' <;> simp only at hu <;> first | (simp [Program.eqGuardType, hu]; done) | exact hu.elim
      · exact guardType_flat hT n gs (off + 1) B hf g' hg
    · cases hf

theorem eqGuard_struct {T : Nat → TI} (hT : TOk P T) {w : World} {op : BinOp} {tx : Nat} {x y : Operand} {xs ys : Array Value} {gs : Array Field} {τ : Ty} (hu : P.underlying tx = some (.struct gs))
    (hf : flatFields T (gs.toList.map (fun g => (g.offset, g.type))) 0 τ = true) : (eqGuard op tx x y (.agg xs) (.agg ys)).run P w = .ok () w := by
  have hd : ∃ n, P.depth = n + 2 := ⟨_, rfl⟩
  obtain ⟨n, hd⟩ := hd
  have hg : P.eqGuardType P.depth tx = false := by
    rw [hd, Program.eqGuardType]
    simp only [hu]
    rw [Array.any_eq_false']
    intro f hfm
    rw [guardType_flat hT n gs.toList 0 τ hf f (by simpa using hfm)]
    simp
  unfold eqGuard
  cases op <;> simp [hg]

theorem equalIn_nil {tx e0 : Nat} (hu : P.underlying tx = some (.slice e0)) (d : Nat) (A : Option Addr) (n c : Nat) : (Op.equalIn (d + 1) tx (.slice A n c) (.slice none 0 0)).run P w = .ok A.isNone w := by
  cases A <;> simp [Op.equalIn, run_underlying hu]

theorem bin_ok {op : BinOp} {tx ty : Nat} {x y : Operand} {v : Value} {d : D} {t : Ty} (R : Rel C F ow a w) (ho : o.op = .binOp op tx x y ty)
    (hg : (eqGuard op tx x y (a.eval x) (a.eval y)).run P w = .ok () w) (h : (binOp op tx (a.eval x) (a.eval y)).run P w = .ok v w) (hl : Left C F (.val t d) v a w) : OpOk P C o a w F (.val t d) :=
  ⟨v, w, run_exec_bin P o a w op tx ty x y ho v hg h, hl⟩

theorem binE_ok {op : BinOp} {tx ty : Nat} {x y : Operand} (hT : TOk P T) (R : Rel C F ow a w) (ho : o.op = .binOp op tx x y ty) (h : binE T op tx x y ty F = some (F1, e, vc)) (hv : vc) : OpOk P C o a w F1 e := by
  unfold binE at h
  rw [Option.bind_eq_some_iff] at h
  obtain ⟨⟨t1, d1⟩, hx, h⟩ := h
  rw [Option.bind_eq_some_iff] at h
  obtain ⟨⟨t2, d2⟩, hy, h⟩ := h
  simp only at h
  split at h
  · -- numbers
    rename_i k k'
    have h1 := view_int R hx
    have h2 := view_int R hy
    have hg := eqGuard_int P w op tx x y k k' d1.toI d2.toI
    rw [← h1, ← h2] at hg
    have arith : ∀ {r : D}, k = k' → intBin op k d1.toI d2.toI = some r → OpOk P C o a w F (.val (.int k) r) := by
      intro r hk hr
      subst hk
      obtain ⟨q, rfl, hrun⟩ := intBin_run (P := P) (w := w) (tx := tx) hr
      exact bin_ok R ho hg (by rw [h1, h2]; exact hrun) (Left.int _ _ R)
    have cmp : ∀ {r : D}, k = k' → intCmp op d1.toI d2.toI = some r → OpOk P C o a w F (.val .bool r) := by
      intro r hk hr
      subst hk
      obtain ⟨q, rfl, hrun⟩ := intCmp_run (P := P) (w := w) (k := k) (tx := tx) hr
      exact bin_ok R ho hg (by rw [h1, h2]; exact hrun) (Left.bool _ R)
    split at h
    · simp only [resIf, Option.some.injEq, Prod.mk.injEq] at h
      obtain ⟨rfl, rfl, rfl⟩ := h
      exact bin_ok R ho hg (by rw [h1, h2]; simp [binOp, Op.shift, Int.not_lt.mpr hv]) (Left.int _ _ R)
    · simp only [resIf, Option.some.injEq, Prod.mk.injEq] at h
      obtain ⟨rfl, rfl, rfl⟩ := h
      exact bin_ok R ho hg (by rw [h1, h2]; simp [binOp, Op.shift, Int.not_lt.mpr hv]) (Left.int _ _ R)
    · replace h := bind_guard h; obtain ⟨hk, h⟩ := h
      obtain rfl := of_decide_eq_true hk
      simp only [resIf, Option.some.injEq, Prod.mk.injEq] at h
      obtain ⟨rfl, rfl, rfl⟩ := h
      exact bin_ok R ho hg (by rw [h1, h2]; simp [binOp, Op.intDiv, hv]) (Left.int _ _ R)
    · replace h := bind_guard h; obtain ⟨hk, h⟩ := h
      obtain rfl := of_decide_eq_true hk
      simp only [resIf, Option.some.injEq, Prod.mk.injEq] at h
      obtain ⟨rfl, rfl, rfl⟩ := h
      exact bin_ok R ho hg (by rw [h1, h2]; simp [binOp, Op.intDiv, hv]) (Left.int _ _ R)
    · replace h := bind_guard h; obtain ⟨hk, h⟩ := h
      have hk := of_decide_eq_true hk
      split at h
      · rename_i r hr
        simp only [res, Option.some.injEq, Prod.mk.injEq] at h
        obtain ⟨rfl, rfl, rfl⟩ := h
        exact arith hk hr
      · rw [Option.bind_eq_some_iff] at h
        obtain ⟨r, hr, h⟩ := h
        simp only [res, Option.some.injEq, Prod.mk.injEq] at h
        obtain ⟨rfl, rfl, rfl⟩ := h
        exact cmp hk hr
  · -- strings
    have h1 := view_str R hx
    have h2 := view_str R hy
    have hg := eqGuard_str P w op tx x y d1.toS d2.toS
    rw [← h1, ← h2] at hg
    split at h
    · simp only [resIf, Option.some.injEq, Prod.mk.injEq] at h
      obtain ⟨rfl, rfl, rfl⟩ := h
      refine bin_ok R ho hg (v := .string (d1.toS ++ d2.toS)) ?_ (Left.str _ R)
      rw [h1, h2]
      have : ¬ ((d1.toS.size + d2.toS.size : Nat) : Int) > IntKind.i64.max := by
        have : IntKind.i64.max = 9223372036854775807 := by decide
        omega
      simp [binOp, Op.stringOp]
      simpa using this
    · rw [Option.bind_eq_some_iff] at h
      obtain ⟨r, hr, h⟩ := h
      simp only [res, Option.some.injEq, Prod.mk.injEq] at h
      obtain ⟨rfl, rfl, rfl⟩ := h
      obtain ⟨q, rfl, hrun⟩ := strCmp_run (P := P) (w := w) (tx := tx) hr
      exact bin_ok R ho hg (by rw [h1, h2]; exact hrun) (Left.bool _ R)
  · -- bools
    replace h := bind_guard h; obtain ⟨hk, h⟩ := h
    have h1 := view_bool R hx
    have h2 := view_bool R hy
    have hg := eqGuard_bool P w op tx x y d1.toB d2.toB
    rw [← h1, ← h2] at hg
    have hu : P.underlying tx = some .bool := by
      have h3 := hT tx
      split at hk
      · rename_i ht
        rw [ht] at h3
        obtain ⟨_, _, _, _, _, h3⟩ := h3
        exact h3
      · cases hk
    have he := run_equalIn_bool' (P := P) w 9999 tx d1.toB d2.toB hu
    split at h
    · simp only [res, Option.some.injEq, Prod.mk.injEq] at h
      obtain ⟨rfl, rfl, rfl⟩ := h
      exact bin_ok R ho hg (by rw [h1, h2]; simp [binOp, Op.equal, Op.maxDepth, he]) (Left.bool _ R)
    · simp only [res, Option.some.injEq, Prod.mk.injEq] at h
      obtain ⟨rfl, rfl, rfl⟩ := h
      exact bin_ok R ho hg (by rw [h1, h2]; simp [binOp, Op.equal, Op.maxDepth, he]) (Left.bool _ R)
    · cases h
  · -- a slice against nil
    split at h
    · rename_i v0
      replace h := bind_guard h; obtain ⟨hk, h⟩ := h
      obtain ⟨A, cap, h1, z1, _⟩ := view_sl R hx
      have hnil : v0 = .slice none 0 0 := by
        unfold view at hy
        simp only [ev] at hy
        cases hc : constEnt T ty v0 with
        | none => rw [hc] at hy; cases hy
        | some q =>
          rw [hc] at hy
          simp only [Option.map_some, Option.some.injEq, Prod.mk.injEq] at hy
          obtain ⟨q1, q2⟩ := q
          obtain ⟨rfl, rfl⟩ := hy
          unfold constEnt at hc
          split at hc <;> first | (simp only [Option.some.injEq, Prod.mk.injEq, reduceCtorEq, false_and] at hc; done) | rfl | cases hc
      subst hnil
      have h2 : a.eval (.const (.slice none 0 0)) = .slice none 0 0 := rfl
      have hg := eqGuard_sl P w op tx x (.const (.slice none 0 0)) A none d1.toL.length 0 cap 0
      rw [← h1, ← h2] at hg
      have hu : ∃ e0, P.underlying tx = some (.slice e0) := by
        have h3 := hT tx
        split at hk
        · rename_i ht
          rw [ht] at h3
          obtain ⟨_, _, _, _, h3, _⟩ := h3
          exact ⟨_, h3⟩
        · cases hk
      obtain ⟨e0, hu⟩ := hu
      have he : (Op.equalIn 10000 tx (.slice A d1.toL.length cap) (.slice none 0 0)).run P w = .ok A.isNone w := equalIn_nil hu 9999 A _ _
      split at h
      · simp only [res, Option.some.injEq, Prod.mk.injEq] at h
        obtain ⟨rfl, rfl, rfl⟩ := h
        exact bin_ok R ho hg (v := .bool A.isNone) (by rw [h1, h2]; simp [binOp, Op.equal, Op.maxDepth, he]) (by rw [z1]; exact Left.bool _ R)
      · simp only [res, Option.some.injEq, Prod.mk.injEq] at h
        obtain ⟨rfl, rfl, rfl⟩ := h
        exact bin_ok R ho hg (v := .bool (!A.isNone)) (by rw [h1, h2]; simp [binOp, Op.equal, Op.maxDepth, he]) (by rw [z1]; exact Left.bool _ R)
      · cases h
    · cases h
  · -- structs
    rename_i A B A' B'
    split at h
    · rename_i fs τ ht
      have hh := bind_guard h
      clear h
      obtain ⟨hk, h⟩ := hh
      simp only [Bool.and_eq_true, decide_eq_true_eq] at hk
      obtain ⟨⟨⟨rfl, rfl⟩, rfl⟩, hf⟩ := hk
      obtain ⟨c1, h1, l1⟩ := view_look R hx
      obtain ⟨c2, h2, l2⟩ := view_look R hy
      have h3 := hT tx
      rw [ht] at h3
      obtain ⟨_, gs, _, hu, _, _, _, _, hgs, hnames, hst, _⟩ := h3
      rw [← hgs] at hf
      have hg : (eqGuard op tx x y (a.eval x) (a.eval y)).run P w = .ok () w := by rw [h1, h2]; exact eqGuard_struct hT hu hf
      have he : (Op.equalIn 10000 tx (.agg c1.toArray) (.agg c2.toArray)).run P w = .ok ((Ty.pair A B).deq d1 d2) w := by
        have hfl : P.fieldsOf tx = gs := by simp [Program.fieldsOf, hu]
        rw [run_equalIn_struct (P := P) w 9999 tx _ _ (by rw [hfl]; exact hu) hst, hfl]
        exact deq_fields hT 9998 gs.toList 0 _ d1 d2 [] [] c1 c2 hnames hf rfl rfl l1 l2
      split at h
      · simp only [res, Option.some.injEq, Prod.mk.injEq] at h
        obtain ⟨rfl, rfl, rfl⟩ := h
        exact bin_ok R ho hg (by rw [h1, h2]; simp [mkV, binOp, Op.equal, Op.maxDepth, he]) (Left.bool _ R)
      · simp only [res, Option.some.injEq, Prod.mk.injEq] at h
        obtain ⟨rfl, rfl, rfl⟩ := h
        exact bin_ok R ho hg (by rw [h1, h2]; simp [mkV, binOp, Op.equal, Op.maxDepth, he]) (Left.bool _ R)
      · cases h
    · cases h
  · cases h

end
end Go.Pi
