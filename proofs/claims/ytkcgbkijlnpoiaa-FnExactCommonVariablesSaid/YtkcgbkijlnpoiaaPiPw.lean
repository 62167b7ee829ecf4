/- Code does what the generator says. -/
import Derived.Test.YtkcgbkijlnpoiaaPiRead
import Derived.Tactics
namespace Go.Pi

section
variable {P : Program} {C : Ctx} {E : Env} {T : Nat → TI} {A : Ann} {F F1 : Fr} {ow : Nat → Option Nat} {a : Act} {w w' : World} {e : Ent} {o : Oper} {K : Fr → Prop} {Q : Exit → Act → World → Prop}

/-- What comes behind an operation. -/
def Next (C : Ctx) (K : Fr → Prop) (a : Act) (w : World) : Prop := ∃ F ow, K F ∧ Rel C F ow a w

theorem Left.next {v : Value} (hA : A.prot = C.prot) (hn : A.n = C.n) (h : Left C F1 e v a w) (hK : orF (putDst A F1 o.dst e) K) : Next C K (a.put o.dst v) w := by
  obtain ⟨F', hF', hK'⟩ := orF_some hK
  obtain ⟨ow', R'⟩ := h.put hA hn hF'
  exact ⟨F', ow', hK', R'⟩

theorem cap_ok {t : Nat} {x : Operand} {args : Array Operand} {ats : Array TypeId} {b : Bool} {τ : Ty} {d : D} {s : Nat} {y : Nat} {et : Ty} (hT : TOk P T) (hA : A.prot = C.prot) (hn : A.n = C.n) (R : Rel C F ow a w)
    (ho : o.op = .call { callee := .builtin .cap, args, argTypes := ats }) (ha : args.toList = [x]) (ht : ats.toList = [t]) (hs : T t = .slice s y et) (hx : view T t F x = some (.sl b τ, d))
    (h : ∀ c : Nat, d.toL.length ≤ c → (d.toZ = true → c = 0) → orF (putDst A F o.dst (.val (.int .i64) (.i c))) K) : o.wp P a w (Next C K) Q := by
  have ha' : args = #[x] := by apply Array.ext'; simpa using ha
  have ht' : ats = #[t] := by apply Array.ext'; simpa using ht
  subst ha' ht'
  have h1 := hT t
  rw [hs] at h1
  obtain ⟨_, _, _, _, h1, _⟩ := h1
  obtain ⟨B, c, e1, e2, e3, e4⟩ := view_sl R hx
  have hrun : (execOp a.eval o).run P w = .ok (.value (.int .i64 c)) w := by
    simp [execOp, ho, resolve, invoke, builtin, e1, Builtin.cap_, run_underlying h1, goInt]
  unfold Oper.wp
  rw [hrun, Oper.upon_value]
  exact (Left.int .i64 c R).next hA hn (h c e4 (fun hz => e3 (by rw [hz] at e2; cases B with | none => rfl | some _ => cases e2)))

theorem pick_ok {c x y : Operand} {d : D} (hA : A.prot = C.prot) (hn : A.n = C.n) (R : Rel C F ow a w) {an : Nat} (ho : o.op = .pick c x y) (hc : view T 0 F c = some (.bool, d))
    (h : sel d.toB (orF ((moveE T A o.type an F x).bind fun q => putDst A q.1 o.dst q.2) K) (orF ((moveE T A o.type an F y).bind fun q => putDst A q.1 o.dst q.2) K)) : o.wp P a w (Next C K) Q := by
  have hcv := view_bool R hc
  have one : ∀ z : Operand, (execOp a.eval o).run P w = .ok (.value (a.eval z)) w → orF ((moveE T A o.type an F z).bind fun q => putDst A q.1 o.dst q.2) K → o.wp P a w (Next C K) Q := by
    intro z hrun h
    obtain ⟨F', hF', hK⟩ := orF_some h
    rw [Option.bind_eq_some_iff] at hF'
    obtain ⟨q, hq, hp⟩ := hF'
    unfold Oper.wp
    rw [hrun, Oper.upon_value]
    obtain ⟨ow', R'⟩ := (moveE_ok R hA hq).put hA hn hp
    exact ⟨F', ow', hK, R'⟩
  rw [sel_iff] at h
  cases hb : d.toB with
  | true => exact one x (by simp [execOp, ho, hcv, hb, asBool]) (h.1 hb)
  | false => exact one y (by simp [execOp, ho, hcv, hb, asBool]) (h.2 hb)

theorem triv_ok {an : Nat} {vc : Prop} (ht : trivOp o.op = true) (h : evalOp T A an o F = some (F1, e, vc)) : vc := by
  unfold evalOp at h
  cases hop : o.op <;> rw [hop] at h ht <;> simp only [trivOp, Bool.false_eq_true] at ht <;> (try simp only at h)
  case move => simp only [Option.map_eq_some_iff, Prod.mk.injEq] at h; obtain ⟨_, _, _, _, rfl⟩ := h; trivial
  case assign => simp only [Option.map_eq_some_iff, Prod.mk.injEq] at h; obtain ⟨_, _, _, _, rfl⟩ := h; trivial
  case nilCheck =>
    unfold nilCheckE at h
    repeat' (first
      | (rw [Option.bind_eq_some_iff] at h; obtain ⟨_, _, h⟩ := h)
      | (simp only [res, Option.some.injEq, Prod.mk.injEq] at h; obtain ⟨_, _, rfl⟩ := h; trivial)
      | split at h
      | cases h)
  case unOp =>
    unfold unE at h
    repeat' (first
      | (rw [Option.bind_eq_some_iff] at h; obtain ⟨_, _, h⟩ := h)
      | (simp only [res, Option.some.injEq, Prod.mk.injEq] at h; obtain ⟨_, _, rfl⟩ := h; trivial)
      | split at h
      | cases h)
  case binOp op _ _ _ _ =>
    unfold binE at h
    cases op <;> simp only [Bool.false_eq_true] at ht <;> (repeat' (first
      | (rw [Option.bind_eq_some_iff] at h; obtain ⟨_, _, h⟩ := h)
      | (simp only [res, Option.some.injEq, Prod.mk.injEq] at h; obtain ⟨_, _, rfl⟩ := h; trivial)
      | split at h
      | cases h))
  case convert =>
    unfold convE at h
    repeat' (first
      | (rw [Option.bind_eq_some_iff] at h; obtain ⟨_, _, h⟩ := h)
      | (simp only [res, Option.some.injEq, Prod.mk.injEq] at h; obtain ⟨_, _, rfl⟩ := h; trivial)
      | split at h
      | cases h)
  case load =>
    first | unfold loadE at h | skip
    try unfold stealE at h
    try unfold frzLoadE at h
    repeat' (first
      | (rw [Option.bind_eq_some_iff] at h; obtain ⟨_, _, h⟩ := h)
      | (simp only [res, Option.some.injEq, Prod.mk.injEq] at h; obtain ⟨_, _, rfl⟩ := h; trivial)
      | split at h
      | cases h)
  case range =>
    unfold rangeE at h
    repeat' (first
      | (rw [Option.bind_eq_some_iff] at h; obtain ⟨_, _, h⟩ := h)
      | (simp only [res, Option.some.injEq, Prod.mk.injEq] at h; obtain ⟨_, _, rfl⟩ := h; trivial)
      | split at h
      | cases h)
  case fieldAddr =>
    unfold fieldAddrE at h
    repeat' (first
      | (rw [Option.bind_eq_some_iff] at h; obtain ⟨_, _, h⟩ := h)
      | (simp only [res, Option.some.injEq, Prod.mk.injEq] at h; obtain ⟨_, _, rfl⟩ := h; trivial)
      | split at h
      | cases h)
  case field =>
    unfold fieldE at h
    repeat' (first
      | (rw [Option.bind_eq_some_iff] at h; obtain ⟨_, _, h⟩ := h)
      | (simp only [res, Option.some.injEq, Prod.mk.injEq] at h; obtain ⟨_, _, rfl⟩ := h; trivial)
      | split at h
      | cases h)
  case build =>
    unfold buildE at h
    repeat' (first
      | (rw [Option.bind_eq_some_iff] at h; obtain ⟨_, _, h⟩ := h)
      | (simp only [res, Option.some.injEq, Prod.mk.injEq] at h; obtain ⟨_, _, rfl⟩ := h; trivial)
      | split at h
      | cases h)
  case buildSlice =>
    unfold buildSliceE at h
    repeat' (first
      | (rw [Option.bind_eq_some_iff] at h; obtain ⟨_, _, h⟩ := h)
      | (simp only [res, Option.some.injEq, Prod.mk.injEq] at h; obtain ⟨_, _, rfl⟩ := h; trivial)
      | split at h
      | cases h)
  case box =>
    unfold boxE at h
    repeat' (first
      | (rw [Option.bind_eq_some_iff] at h; obtain ⟨_, _, h⟩ := h)
      | (simp only [res, Option.some.injEq, Prod.mk.injEq] at h; obtain ⟨_, _, rfl⟩ := h; trivial)
      | split at h
      | cases h)
  case alloc =>
    unfold allocE at h
    repeat' (first
      | (rw [Option.bind_eq_some_iff] at h; obtain ⟨_, _, h⟩ := h)
      | (simp only [res, Option.some.injEq, Prod.mk.injEq] at h; obtain ⟨_, _, rfl⟩ := h; trivial)
      | split at h
      | cases h)
  case extract =>
    unfold extractE at h
    repeat' (first
      | (rw [Option.bind_eq_some_iff] at h; obtain ⟨_, _, h⟩ := h)
      | (simp only [res, Option.some.injEq, Prod.mk.injEq] at h; obtain ⟨_, _, rfl⟩ := h; trivial)
      | split at h
      | cases h)
  case makeFunc =>
    unfold makeFuncE at h
    repeat' (first
      | (rw [Option.bind_eq_some_iff] at h; obtain ⟨_, _, h⟩ := h)
      | (simp only [res, Option.some.injEq, Prod.mk.injEq] at h; obtain ⟨_, _, rfl⟩ := h; trivial)
      | split at h
      | cases h)
  case call c =>
    obtain ⟨cal, args, ats⟩ := c
    cases cal with
    | value f => cases h
    | invoke r m => cases h
    | builtin b =>
      cases b <;> simp only [Bool.false_eq_true] at ht <;> (try simp only at h) <;> (repeat' (first
        | (simp only [lenE] at h)
        | (simp only [maxE] at h)
        | (rw [Option.bind_eq_some_iff] at h; obtain ⟨_, _, h⟩ := h)
        | (simp only [res, Option.some.injEq, Prod.mk.injEq] at h; obtain ⟨_, _, rfl⟩ := h; trivial)
        | split at h
        | cases h
        | contradiction))

theorem base_ok {an : Nat} (hT : TOk P T) (hA : A.prot = C.prot) (hn : A.n = C.n) (R : Rel C F ow a w)
    (h : match evalOp T A an o F with | some (F1, e, vc) => (match trivOp o.op with | true => orF (putDst A F1 o.dst e) K | false => vc ∧ orF (putDst A F1 o.dst e) K) | none => False) : o.wp P a w (Next C K) Q := by
  split at h
  · rename_i F1 e vc heq
    have h2 : vc ∧ orF (putDst A F1 o.dst e) K := by
      split at h
      · rename_i ht
        exact ⟨triv_ok ht heq, h⟩
      · exact h
    obtain ⟨v, w', hrun, hl⟩ := evalOp_ok hT hA R heq h2.1
    unfold Oper.wp
    rcases hrun with hrun | ⟨hrun, rfl⟩
    · rw [hrun, Oper.upon_value]; exact hl.next hA hn h2.2
    · rw [hrun, Oper.upon_skip]; exact hl.next hA hn h2.2
  · exact h.elim

theorem next_ok {s : Nat} {d : D} (hA : A.prot = C.prot) (hn : A.n = C.n) (R : Rel C F ow a w) (ho : o.op = .next (.tmp s) true) (hF : F s = some (.val .iter d)) (hp : A.prot.contains s = false)
    (h : sel (decide (d.snd.toI.toNat < d.fst.toS.size))
        (orF (putDst A (F.put s (.val .iter (.p (.s d.fst.toS) (.i (d.snd.toI.toNat + (Utf8.decode d.fst.toS d.snd.toI.toNat).2 : Nat))))) o.dst
          (.val (.tcons .bool (.tcons (.int .i64) (.tcons (.int .i32) .tnil))) (.p (.b true) (.p (.i d.snd.toI.toNat) (.p (.i (Utf8.decode d.fst.toS d.snd.toI.toNat).1) .u))))) K)
        (orF (putDst A F o.dst (.val (.tcons .bool .tnil) (.p (.b false) .u))) K)) : o.wp P a w (Next C K) Q := by
  have hp' : s ∉ C.prot := by rw [← hA]; intro hm; rw [List.contains_iff_mem.mpr hm] at hp; cases hp
  rw [sel_iff] at h
  obtain ⟨g, hv, hh, R'⟩ := R.step hF hp' (d.snd.toI.toNat + (Utf8.decode d.fst.toS d.snd.toI.toNat).2)
  unfold Oper.wp
  by_cases hlt : d.snd.toI.toNat < d.fst.toS.size
  · have hrun := Go.Lib.run_next_any_at (P := P) w g d.fst.toS d.snd.toI.toNat o.type hh hlt
    have : (execOp a.eval o).run P w = .ok (.value (.tuple #[.bool true, .int .i64 d.snd.toI.toNat, .int .i32 (Utf8.decode d.fst.toS d.snd.toI.toNat).1])) (w.iterAt g d.fst.toS (d.snd.toI.toNat + (Utf8.decode d.fst.toS d.snd.toI.toNat).2)) := by
      simp [execOp, ho, eval_tmp, hv, hrun]
    rw [this, Oper.upon_value]
    have hL : Left C (F.put s (.val .iter (.p (.s d.fst.toS) (.i (d.snd.toI.toNat + (Utf8.decode d.fst.toS d.snd.toI.toNat).2 : Nat)))))
        (.val (.tcons .bool (.tcons (.int .i64) (.tcons (.int .i32) .tnil))) (.p (.b true) (.p (.i d.snd.toI.toNat) (.p (.i (Utf8.decode d.fst.toS d.snd.toI.toNat).1) .u))))
        (.tuple #[.bool true, .int .i64 d.snd.toI.toNat, .int .i32 (Utf8.decode d.fst.toS d.snd.toI.toNat).1]) a (w.iterAt g d.fst.toS (d.snd.toI.toNat + (Utf8.decode d.fst.toS d.snd.toI.toNat).2)) :=
      ⟨ow, R', ⟨[.bool true, .int .i64 d.snd.toI.toNat, .int .i32 (Utf8.decode d.fst.toS d.snd.toI.toNat).1], rfl, [.bool true], [.int .i64 d.snd.toI.toNat, .int .i32 (Utf8.decode d.fst.toS d.snd.toI.toNat).1], fun _ => true, rfl, rfl,
      [.int .i64 d.snd.toI.toNat], [.int .i32 (Utf8.decode d.fst.toS d.snd.toI.toNat).1], fun _ => true, rfl, rfl, [.int .i32 (Utf8.decode d.fst.toS d.snd.toI.toNat).1], [], fun _ => true, rfl, rfl, rfl⟩, fun r hr => by cases hr⟩
    exact hL.next hA hn (h.1 (by simpa using hlt))
  · have hrun := Go.Lib.run_next_end_at (P := P) w g d.fst.toS d.snd.toI.toNat o.type hh hlt
    have : (execOp a.eval o).run P w = .ok (.value (.tuple #[.bool false])) w := by
      simp [execOp, ho, eval_tmp, hv, hrun]
    rw [this, Oper.upon_value]
    have hL : Left C F (.val (.tcons .bool .tnil) (.p (.b false) .u)) (.tuple #[.bool false]) a w := ⟨ow, R, ⟨[.bool false], rfl, [.bool false], [], fun _ => true, rfl, rfl, rfl⟩, fun r hr => by cases hr⟩
    exact hL.next hA hn (h.2 (by simpa using hlt))

theorem pwOp0_ok {an : Nat} (hE : EnvOk P E) (hK : Known P E) (hA : A.prot = C.prot) (hn : A.n = C.n) (R : Rel C F ow a w) (h : pwOp0 E A an o F K) : o.wp P a w (Next C K) Q := by
  unfold pwOp0 at h
  split at h
  · rename_i c x y ho
    split at h
    · rename_i d hc
      exact pick_ok hA hn R ho hc h
    · exact h.elim
  · rename_i s ho
    split at h
    · rename_i d hF
      split at h
      · exact h.elim
      · rename_i hp
        exact next_ok hA hn R ho hF hp h
    · exact h.elim
  · rename_i f args ats ho
    exact call_ok hE hK hA hn R ho h
  · rename_i args ats ho
    split at h
    · rename_i x t ha ht
      split at h
      · rename_i s y et b τ d hs hx
        exact cap_ok hE.1 hA hn R ho ha ht hs hx h
      · exact h.elim
    · exact h.elim
  · exact base_ok hE.1 hA hn R h

theorem pwOp_ok {an : Nat} (hE : EnvOk P E) (hK : Known P E) (hA : A.prot = C.prot) (hn : A.n = C.n) (R : Rel C F ow a w) (h : pwOp E A an o F K) : o.wp P a w (Next C K) Q := by
  unfold pwOp at h
  split at h
  · cases hf : F.freeze A (an - 10) with
    | none => rw [hf] at h; exact h.elim
    | some F' =>
      rw [hf] at h
      obtain ⟨R1, _, _⟩ := R.freeze hA hf
      exact pwOp0_ok hE hK hA hn R1 h
  · exact pwOp0_ok hE hK hA hn R h

theorem know_ok {s : Nat} {d : D} {b : Bool} (R : Rel C F ow a w) (h : F s = some (.val .bool d)) (hb : d.toB = b) : Rel C (F.know s b) ow a w := by
  have split : ∀ q e, F.know s b q = some e → (q = s ∧ e = .val .bool (.b b)) ∨ F q = some e := by
    intro q e hq
    unfold Fr.know at hq
    cases hqs : Nat.beq q s with
    | true => rw [hqs] at hq; simp only [cond_true, Option.some.injEq] at hq; exact .inl ⟨Nat.eq_of_beq_eq_true hqs, hq.symm⟩
    | false => rw [hqs] at hq; exact .inr hq
  refine { R with
    ents := fun q e hq => ?_
    root := fun q e r hq hr => ?_
    lt := fun q e hq => ?_ }
  · rcases split q e hq with ⟨rfl, rfl⟩ | hq
    · obtain ⟨cs, e1, h1⟩ := R.ents q _ h
      have h1 : cs = [.bool d.toB] := h1
      exact ⟨cs, e1, by rw [h1, hb]; rfl⟩
    · exact R.ents q e hq
  · rcases split q e hq with ⟨rfl, rfl⟩ | hq
    · cases hr
    · exact R.root q e r hq hr
  · rcases split q e hq with ⟨rfl, rfl⟩ | hq
    · exact R.lt q _ h
    · exact R.lt q e hq

theorem skip_ok (hA : A.prot = C.prot) (hn : A.n = C.n) (R : Rel C F ow a w) (h : orF (putDst A F o.dst (.val .tnil .u)) K) : Next C K (a.put o.dst undef) w := by
  have hl : Left C F (.val .tnil .u) undef a w := ⟨ow, R, ⟨[], rfl, rfl⟩, fun r hr => by cases hr⟩
  exact hl.next hA hn h

theorem yielded_bool {ops : Array Oper} {j s : Nat} {b : Bool} (hs : dstOf ops.toList j = some s) (hlt : s < a.tmps.size) (hv : tmOf a s = .bool b) : yielded ops a.tmps j = some b := by
  unfold yielded
  unfold dstOf at hs
  rw [show ops[j]? = ops.toList[j]? by simp, hs]
  unfold tmOf at hv
  simp only [Option.bind_some]
  have : a.tmps[s]? = some (.bool b) := by
    rw [Array.getElem?_eq_getElem hlt]
    rw [← hv]
    simp [Array.getD, hlt]
  rw [this]

theorem pwOne_ok {rid n : Nat} {ops : Array Oper} (hE : EnvOk P E) (hKn : Known P E) (hA : A.prot = C.prot) (hn : A.n = C.n) (R : Rel C F ow a w) (h : pwOne E A rid ops.toList n o F K) :
    (Region.wanted o (yielded ops a.tmps) = true ∧ (∃ G, Rel C G ow a w ∧ pwOp E A (A.op rid n) o G K)) ∨ (Region.wanted o (yielded ops a.tmps) = false ∧ Next C K (a.put o.dst undef) w) := by
  unfold pwOne at h
  split at h
  · rename_i hg
    exact .inl ⟨by simp [Region.wanted, hg], F, R, h⟩
  · rename_i j want hg
    split at h
    · rename_i s hds
      split at h
      · rename_i d hF
        have hlt : s < a.tmps.size := by rw [R.size]; exact R.lt s _ hF
        have hv : tmOf a s = .bool d.toB := by
          obtain ⟨cs, e1, h1⟩ := R.ents s _ hF
          have h1 : cs = [.bool d.toB] := h1
          rw [e1, h1]; rfl
        have hy := yielded_bool hds hlt hv
        rw [sel_iff] at h
        have hwant : Region.wanted o (yielded ops a.tmps) = (d.toB == want) := by
          simp only [Region.wanted, hg, hy]
          cases d.toB <;> cases want <;> rfl
        rw [hwant]
        cases hb : (d.toB == want) with
        | true =>
          have hb' : d.toB = want := by simpa using hb
          exact .inl ⟨rfl, _, know_ok R hF hb', h.1 hb⟩
        | false =>
          have hb' : d.toB = !want := by cases hd : d.toB <;> cases want <;> simp_all
          exact .inr ⟨rfl, skip_ok hA hn (know_ok R hF hb') (h.2 hb)⟩
      · rename_i d hF
        refine .inr ⟨?_, skip_ok hA hn R h⟩
        have hv : tmOf a s = .tuple #[] := by
          obtain ⟨cs, e1, h1⟩ := R.ents s _ hF
          have h1 : cs = [] := h1
          rw [e1, h1]; rfl
        have hlt : s < a.tmps.size := by rw [R.size]; exact R.lt s _ hF
        have hy : yielded ops a.tmps j = none := by
          unfold yielded
          unfold dstOf at hds
          rw [show ops[j]? = ops.toList[j]? by simp, hds]
          unfold tmOf at hv
          have : a.tmps[s]? = some (.tuple #[]) := by
            rw [Array.getElem?_eq_getElem hlt]
            rw [← hv]
            simp [Array.getD, hlt]
          simp only [Option.bind_some, this]
        simp only [Region.wanted, hg, hy]
        rfl
      · exact h.elim
    · exact h.elim

theorem pwOps_ok {rid : Nat} {ops : Array Oper} (hE : EnvOk P E) (hKn : Known P E) (hA : A.prot = C.prot) (hn : A.n = C.n) (hQ : ∀ F ow a w, K F → Rel C F ow a w → Q .normal a w) :
    ∀ (l : List Oper) (n : Nat) (F : Fr) (ow : Nat → Option Nat) (a : Act) (w : World), Rel C F ow a w → pwOps E A rid ops.toList n l F K → wpList P ops Q l a w
  | [], n, F, ow, a, w, R, h => hQ F ow a w h R
  | o :: l, n, F, ow, a, w, R, h => by
    have next : ∀ a w, Next C (fun F' => pwOps E A rid ops.toList (n + 1) l F' K) a w → wpList P ops Q l a w := by
      rintro a w ⟨F', ow', h1, R1⟩
      exact pwOps_ok hE hKn hA hn hQ l (n + 1) F' ow' a w R1 h1
    unfold pwOps at h
    unfold wpList
    rcases pwOne_ok hE hKn hA hn R h with ⟨h1, G, R1, h2⟩ | ⟨h1, h2⟩
    · rw [h1, if_pos rfl]
      exact .inl (Oper.wp_mono next (pwOp_ok hE hKn hA hn R1 h2))
    · rw [h1, if_neg (by simp)]
      exact next _ _ h2

/-! ### whatever order -/

/-- What a computation gives does not hang on the world, nor does it change it. -/
def Still (P : Program) {α : Type} (s : Sem α) : Prop := ∀ (w w2 w' : World) (v : α), s.run P w = .ok v w' → w' = w ∧ s.run P w2 = .ok v w2

theorem Still.pure {α : Type} (v : α) : Still P (pure v : Sem α) := by
  intro w w2 w' u h
  simp only [Sem.run_pure, Result.ok.injEq] at h
  obtain ⟨rfl, rfl⟩ := h
  exact ⟨rfl, by simp⟩

theorem Still.bind {α β : Type} {s : Sem α} {k : α → Sem β} (h1 : Still P s) (h2 : ∀ v, Still P (k v)) : Still P (s >>= k) := by
  intro w w2 w' u h
  rw [Sem.run_bind] at h ⊢
  cases hs : s.run P w with
  | halt x w1 => rw [hs] at h; cases h
  | ok v w1 =>
    rw [hs] at h
    obtain ⟨rfl, h3⟩ := h1 w w2 w1 v hs
    obtain ⟨rfl, h4⟩ := h2 v _ w2 w' u h
    exact ⟨rfl, by rw [h3]; exact h4⟩

theorem Still.never {α : Type} {s : Sem α} (h : ∀ w v w', s.run P w ≠ .ok v w') : Still P s := fun w _ w' v hr => absurd hr (h w v w')

theorem never_panic {α : Type} (x y : Int) (s : Bool) (c : BoundsCode) (w : World) (v : α) (w' : World) : (runtimePanic (.bounds x y s c) : Sem α).run P w ≠ .ok v w' := by
  unfold runtimePanic
  simp [goPanic]

theorem still_underlying (t : TypeId) : Still P (underlying t) := by
  cases hu : P.underlying t with
  | some d => intro w w2 w' v h; rw [run_underlying hu] at h ⊢; cases h; exact ⟨rfl, rfl⟩
  | none => exact Still.never fun w v w' => by simp [underlying, hu]

theorem still_sizeOf (t : TypeId) : Still P (sizeOf t) := by
  unfold sizeOf typeInfo
  refine Still.bind (Still.bind (fun w w2 w' v h => ?_) fun p => ?_) fun i => Still.pure _
  · simp at h ⊢
    exact ⟨h.2.symm, h.1⟩
  · cases p.info? t with
    | some i => exact Still.pure _
    | none => exact Still.never fun w v w' => by simp

theorem still_asIntOf (v : Value) : Still P (asIntOf v) := by
  unfold asIntOf
  split
  · exact Still.pure _
  · exact Still.never fun w v w' => by simp
  · exact Still.never fun w v w' => by simp

theorem still_sureAddr (v : Value) : Still P (Instr.sureAddr v) := by
  unfold Instr.sureAddr
  split
  · exact Still.pure _
  · exact Still.never fun w v w' => by simp

theorem never_bounds {α : Type} (k : IntKind) (x y : Int) (c : BoundsCode) (w : World) (v : α) (w' : World) : (boundsPanic k x y c : Sem α).run P w ≠ .ok v w' := by
  intro h
  unfold boundsPanic at h
  dsimp only at h
  split at h
  · rw [Sem.run_bind] at h
    generalize Sem.run P _ w = r at h
    cases r with
    | halt => cases h
    | ok b w1 => exact never_panic _ _ _ _ _ _ _ h
  · rw [Sem.run_bind] at h
    generalize Sem.run P _ w = r at h
    cases r with
    | halt => cases h
    | ok b w1 => exact never_panic _ _ _ _ _ _ _ h

theorem still_indexAt (t : TypeId) (x i : Value) : Still P (Instr.indexAt t x i) := by
  unfold Instr.indexAt
  repeat' (first
    | exact Still.pure _
    | exact still_sizeOf _
    | exact still_sureAddr _
    | exact still_underlying _
    | exact still_asIntOf _
    | exact Still.never fun w v w' => never_bounds _ _ _ _ _ _ _
    | refine Still.bind ?_ fun _ => ?_
    | split
    | dsimp only
    | (refine Still.never fun w v w' => ?_; simp; done))

theorem pos_fits {t : Nat} (h : posTy T t = true) : ∃ τ, fitsTy T t τ = true ∧ 0 < τ.size := by
  unfold posTy at h
  unfold fitsTy
  cases ht : T t with
  | none => rw [ht] at h; cases h
  | base τ =>
    rw [ht] at h
    cases τ <;> simp only [Bool.false_eq_true] at h
    · rename_i k; exact ⟨.int k, by simp, by simp [Ty.size]⟩
    · exact ⟨.bool, by simp, by simp [Ty.size]⟩
    · exact ⟨.str, by simp, by simp [Ty.size]⟩
  | slice => exact ⟨.sl false .unit, rfl, by simp [Ty.size]⟩
  | struct fs τ =>
    rw [ht] at h
    cases τ <;> simp only [Bool.false_eq_true, Bool.not_eq_true'] at h
    rename_i a b
    refine ⟨.pair a b, Nat.beq_refl _, ?_⟩
    cases hz : (Ty.pair a b).size with
    | zero => rw [hz] at h; cases h
    | succ n => omega

theorem still_fieldAt (hT : TOk P T) {s f : Nat} {p : Nat × Nat} {fs : List (Nat × Nat)} {τ : Ty} (hs : T s = .struct fs τ) (hf : fs[f]? = some p) (hp : posTy T p.2 = true) (x : Value) : Still P (Instr.fieldAt s x f) := by
  obtain ⟨τ', hfit, hz⟩ := pos_fits hp
  unfold Instr.fieldAt
  have h1 := hT s
  rw [hs] at h1
  obtain ⟨_, gs, _, hu, _, _, _, _, hgs, _⟩ := h1
  obtain ⟨i, hi, hsz, _⟩ := fits_info hT hfit
  rw [← hgs, List.getElem?_map] at hf
  cases hg : gs.toList[f]? with
  | none => rw [hg] at hf; cases hf
  | some fl =>
    rw [hg] at hf
    simp only [Option.map_some, Option.some.injEq] at hf
    subst hf
    have hg' : gs[f]? = some fl := by simpa using hg
    intro w w2 w' v h
    have hz' : ¬ τ'.size = 0 := by omega
    simp only at hi hsz
    cases x with
    | pointer a =>
      cases a with
      | none => simp [run_underlying hu, hg', Instr.sureAddr] at h
      | some a =>
        simp [run_underlying hu, hg', Instr.sureAddr, fieldPlace, sizeOf, typeInfo, hi, hsz, hz'] at h ⊢
        exact ⟨h.2.symm, h.1⟩
    | _ => simp [run_underlying hu, hg', Instr.sureAddr] at h

theorem quiet_ok (hT : TOk P T) (ρ : Operand → Value) (hq : quietOp T o = true) : ∃ s : Sem Value, execOp ρ o = (s >>= fun v => pure (.value v)) ∧ Still P s := by
  unfold quietOp at hq
  split at hq
  · rename_i x ho
    exact ⟨pure (ρ x), by unfold execOp; rw [ho]; rfl, Still.pure _⟩
  · rename_i s x f ho
    exact ⟨_, by unfold execOp; rw [ho], still_indexAt _ _ _⟩
  · rename_i s x f ho
    split at hq
    · rename_i fs τ hs
      split at hq
      · rename_i p hp
        exact ⟨_, by unfold execOp; rw [ho], still_fieldAt hT hs hp hq _⟩
      · cases hq
    · cases hq
  · cases hq

theorem keep_part (t : TypeId) (cs : Array Value) (off : Nat) : Keep P (part t cs off) := by
  unfold part
  refine Keep.bind (keep_isAgg t) fun b => ?_
  split
  · exact Keep.bind (keep_sizeOf t) fun n => Keep.pure _
  · split
    · exact Keep.pure _
    · exact keep_stuck _

theorem keep_followBlind : ∀ (l : List FieldStep) (t : TypeId) (x : Option Value), Keep P (followBlind l t x)
  | [], _, _ => Keep.pure _
  | s :: rest, t, x => by
    unfold followBlind
    refine Keep.bind (keep_underlying _) fun d => ?_
    repeat' (first
      | exact Keep.pure _
      | exact keep_stuck _
      | exact keep_followBlind rest _ _
      | (refine Keep.bind (keep_part _ _ _) fun _ => ?_)
      | split
      | dsimp only)

theorem keep_nilAhead : ∀ (n : Nat) (t : TypeId) (v : Value) (name : String), Keep P (nilAhead n t v name)
  | 0, _, _, _ => Keep.pure _
  | n + 1, t, v, name => by
    unfold nilAhead
    refine Keep.bind (keep_typeInfo _) fun d => ?_
    repeat' (first
      | exact Keep.pure _
      | exact keep_stuck _
      | exact keep_nilAhead n _ _ _
      | (refine Keep.bind (keep_followBlind _ _ _) fun _ => ?_)
      | (refine Keep.bind (keep_underlying _) fun _ => ?_)
      | split
      | dsimp only)

theorem KeepO.of {o : Oper} (h : ∀ ρ : Operand → Value, ∃ s : Sem Value, execOp ρ o = (s >>= fun v => pure (.value v)) ∧ Keep P s) : KeepO P o := by
  intro a w n w' hr
  obtain ⟨s, hs, hk⟩ := h a.eval
  rw [hs, Sem.run_bind] at hr
  cases hr2 : s.run P w with
  | halt x w1 => rw [hr2] at hr; cases hr
  | ok v w1 =>
    rw [hr2] at hr
    simp only [Result.andThen, Sem.run_pure, Result.ok.injEq] at hr
    obtain ⟨rfl, rfl⟩ := hr
    exact ⟨hk _ _ _ hr2, v, rfl⟩

/-- It gives a value and leaves the world. -/
def KeepV (P : Program) (s : Sem Go.Next) : Prop := ∀ w n w', s.run P w = .ok n w' → w' = w ∧ ∃ v, n = .value v
theorem KeepV.pure (v : Value) : KeepV P (pure (.value v) : Sem Go.Next) := by
  intro w n w' h
  simp only [Sem.run_pure, Result.ok.injEq] at h
  exact ⟨h.2.symm, v, h.1.symm⟩
theorem KeepV.never {s : Sem Go.Next} (h : ∀ w v w', s.run P w ≠ .ok v w') : KeepV P s := fun w v w' hr => absurd hr (h w v w')
theorem KeepV.bind {α : Type} {s : Sem α} {k : α → Sem Go.Next} (h1 : Keep P s) (h2 : ∀ v, KeepV P (k v)) : KeepV P (s >>= k) := by
  intro w u w' h
  rw [Sem.run_bind] at h
  cases hs : s.run P w with
  | halt x w1 => rw [hs] at h; cases h
  | ok v w1 =>
    rw [hs] at h
    have := h1 w v w1 hs
    subst this
    exact h2 v _ u w' h

theorem keepOp_ok (hT : TOk P T) (hq : keepOp T o = true) : KeepO P o := by
  unfold keepOp at hq
  rw [Bool.or_eq_true] at hq
  rcases hq with hq | hq
  · exact KeepO.of fun ρ => by
      obtain ⟨s, h1, h2⟩ := quiet_ok hT ρ hq
      exact ⟨s, h1, fun w v w' h => (h2 w w w' v h).1⟩
  · split at hq
    · rename_i t x ho
      exact KeepO.of fun ρ => ⟨_, by unfold execOp; rw [ho], keep_loadAt _ _⟩
    · rename_i x ho
      intro a w n w' hr
      unfold execOp at hr
      rw [ho] at hr
      simp only at hr
      split at hr
      · simp [runtimePanic, goPanic] at hr
      · simp [runtimePanic, goPanic] at hr
      · simp [runtimePanic, goPanic] at hr
      · split at hr
        · simp [runtimePanic, goPanic] at hr
        · refine KeepV.bind keep_program (fun pr => KeepV.bind (keep_nilAhead _ _ _ _) (fun b => ?_)) _ _ _ hr
          split
          · exact KeepV.never fun w v w' => by simp [unsupported]
          · exact KeepV.pure _
        · simp at hr
          exact ⟨hr.2.symm, _, hr.1.symm⟩
      · simp at hr
        exact ⟨hr.2.symm, _, hr.1.symm⟩
    · cases hq

theorem pickRead_some {T : Nat → TI} {ops : Array Oper} {listed : Array Bool} {j : Nat} : ∀ (l : List Nat), pickRead T ops listed l = some j → j ∈ l ∧ readFree T ops listed j (aftOf ops j) = true
  | [], h => by cases h
  | i :: r, h => by
    unfold pickRead at h
    split at h
    · rename_i hq
      simp only [Option.some.injEq] at h
      subst h
      exact ⟨by simp, hq⟩
    · obtain ⟨h1, h2⟩ := pickRead_some r h
      exact ⟨by simp [h1], h2⟩

theorem readFree_ok (hT : TOk P T) {ops : Array Oper} {listed : Array Bool} {i : Nat} {S : List Nat} (h : readFree T ops listed i S = true) : ∃ oi, ops[i]? = some oi ∧ KeepO P oi ∧
    (∀ (j : Nat) (oj : Oper), j ∈ S → ops[j]? = some oj → ∃ e ∈ oj.after, Region.binds .any e = true ∧ (e.on = i ∨ e.on ∈ S)) ∧
    (∀ j, j ∈ S → listed.getD j false = false) ∧
    (∀ j oj, ops[j]? = some oj → j ≠ i → listed.getD j true = false → ¬ j ∈ S → oi.apart ops oj = true ∧ KeepO P oj) := by
  unfold readFree at h
  split at h
  · rename_i oi hoi
    simp only [Bool.and_eq_true, List.all_eq_true, Bool.not_eq_true', Bool.or_eq_true] at h
    obtain ⟨⟨h1, h2⟩, h3⟩ := h
    refine ⟨oi, hoi, keepOp_ok hT h1, fun j oj hj ho => ?_, fun j hj => (h2 j hj).1, fun j oj ho hne hun hS => ?_⟩
    · have := (h2 j hj).2
      rw [ho] at this
      simp only at this
      obtain ⟨k, hk, hb⟩ := Array.any_eq_true.mp this
      simp only [Bool.and_eq_true, Bool.or_eq_true] at hb
      exact ⟨oj.after[k], Array.getElem_mem hk, hb.1, hb.2.imp Nat.eq_of_beq_eq_true List.contains_iff_mem.mp⟩
    · have := h3 j (List.mem_range.mpr (Array.getElem?_eq_some_iff.1 ho).1)
      rw [ho] at this
      simp only [Bool.and_eq_true] at this
      rcases this with ((h | h) | h) | h
      · exact absurd (Nat.eq_of_beq_eq_true h) hne
      · rw [hun] at h; cases h
      · exact absurd (List.contains_iff_mem.mp h) hS
      · exact ⟨h.1, keepOp_ok hT h.2⟩
  · cases h

theorem pickQuiet_some {T : Nat → TI} {ops : Array Oper} {listed : Array Bool} {j : Nat} : ∀ (l : List Nat), pickQuiet T ops listed l = some j → j ∈ l ∧ ∃ o, ops[j]? = some o ∧ quietOp T o = true ∧ Region.free .any ops listed j = true
  | [], h => by cases h
  | i :: r, h => by
    unfold pickQuiet at h
    split at h
    · rename_i o ho
      split at h
      · rename_i hq
        simp only [Option.some.injEq] at h
        subst h
        rw [Bool.and_eq_true] at hq
        exact ⟨by simp, o, ho, hq.1, hq.2⟩
      · obtain ⟨h1, h2⟩ := pickQuiet_some r h
        exact ⟨by simp [h1], h2⟩
    · obtain ⟨h1, h2⟩ := pickQuiet_some r h
      exact ⟨by simp [h1], h2⟩

theorem allI_at {f : Nat → Prop} : ∀ (l : List Nat), allI l f → ∀ i ∈ l, f i
  | [], _, i, h => by cases h
  | [j], h, i, hi => by
    rw [List.mem_singleton] at hi
    subst hi
    exact h
  | j :: k :: r, h, i, hi => by
    rcases List.mem_cons.mp hi with rfl | hi
    · exact h.1
    · exact allI_at (k :: r) h.2 i hi

theorem pwAny_ok {rid : Nat} {ops : Array Oper} (hE : EnvOk P E) (hKn : Known P E) (hA : A.prot = C.prot) (hn : A.n = C.n) (hQ : ∀ F ow a w, K F → Rel C F ow a w → Q .normal a w) (hP : ∀ c a w, ¬ Q (.panic c) a w) (hsel : Region.noSelect ops = true) :
    ∀ (fuel : Nat) (listed : Array Bool) (F : Fr) (ow : Nat → Option Nat) (a : Act) (w : World), Rel C F ow a w → pwAny E A rid ops fuel listed F K → wpAny P .any ops Q fuel listed a w
  | 0, listed, F, ow, a, w, R, h => by
    unfold pwAny at h
    split at h
    · rename_i hr
      exact wpAny_done hr (hQ F ow a w h R) 0
    · exact h.elim
  | fuel + 1, listed, F, ow, a, w, R, h => by
    have next : ∀ j a w, Next C (fun F' => pwAny E A rid ops fuel (listed.setIfInBounds j true) F' K) a w → wpAny P .any ops Q fuel (listed.setIfInBounds j true) a w := by
      rintro j a w ⟨F', ow', h1, R1⟩
      exact pwAny_ok hE hKn hA hn hQ hP hsel fuel _ F' ow' a w R1 h1
    unfold pwAny at h
    split at h
    · rename_i hr
      exact wpAny_done hr (hQ F ow a w h R) _
    · rename_i i rs hr
      split at h
      · rename_i j hpick
        obtain ⟨hm, o, ho, hq, hfree⟩ := pickQuiet_some _ hpick
        rw [ho] at h
        simp only at h
        have hrc : (Region.ready .any ops listed).contains j = true := by rw [hr]; exact List.contains_iff_mem.mpr hm
        have fin : ∀ v, Yields P ops o v a → wpAny P .any ops Q fuel (listed.setIfInBounds j true) (a.put o.dst v) w → wpAny P .any ops Q (fuel + 1) listed a w :=
          fun v hy hw => wpAny_take ho hsel hfree hrc (fun c a w hc => absurd hc (hP c _ w)) hy hw
        rcases pwOne_ok hE hKn hA hn R h with ⟨h1, G, R1, h2⟩ | ⟨h1, h2⟩
        · have hwp := pwOp_ok (Q := fun _ _ _ => False) hE hKn hA hn R1 h2
          unfold Oper.wp at hwp
          cases hrun : (execOp a.eval o).run P w with
          | halt x w1 => rw [hrun] at hwp; cases x <;> exact hwp.elim
          | ok x w1 =>
            obtain ⟨s, hs, hst⟩ := quiet_ok hE.1 a.eval hq
            have hrun0 := hrun
            rw [hs, Sem.run_bind] at hrun
            cases hr2 : s.run P w with
            | halt => rw [hr2] at hrun; cases hrun
            | ok v w2 =>
              rw [hr2] at hrun
              simp only [Result.andThen, Sem.run_pure, Result.ok.injEq] at hrun
              obtain ⟨rfl, rfl⟩ := hrun
              obtain ⟨rfl, _⟩ := hst w w _ v hr2
              rw [hrun0, Oper.upon_value] at hwp
              refine fin v (.inl ⟨h1, fun w3 => ?_⟩) (next j _ _ hwp)
              rw [hs, Sem.run_bind, (hst _ w3 _ v hr2).2]
              simp [Result.andThen]
        · exact fin undef (.inr ⟨h1, rfl⟩) (next j _ _ h2)
      · split at h
        · rename_i j hpick
          obtain ⟨hm, hrf⟩ := pickRead_some _ hpick
          obtain ⟨o, ho, hkeep, hS, hunS, hfree⟩ := readFree_ok hE.1 hrf
          rw [ho] at h
          simp only at h
          have hrc : j ∈ Region.ready .any ops listed := by rw [hr]; exact hm
          have fin : ∀ v, YieldsAt P ops o v a w → wpAny P .any ops Q fuel (listed.setIfInBounds j true) (a.put o.dst v) w → wpAny P .any ops Q (fuel + 1) listed a w :=
            fun v hy hw => wpAny_firstS (fun k => k ∈ aftOf ops j) ho (Region.noSelect_spec hsel) (fun c a w hc => absurd hc (hP c _ w)) hS fuel listed a w hunS hfree hrc hy hw
          rcases pwOne_ok hE hKn hA hn R h with ⟨h1, G, R1, h2⟩ | ⟨h1, h2⟩
          · have hwp := pwOp_ok (Q := fun _ _ _ => False) hE hKn hA hn R1 h2
            unfold Oper.wp at hwp
            cases hrun : (execOp a.eval o).run P w with
            | halt x w1 => rw [hrun] at hwp; cases x <;> exact hwp.elim
            | ok x w1 =>
              obtain ⟨rfl, v, rfl⟩ := hkeep a w x w1 hrun
              rw [hrun, Oper.upon_value] at hwp
              exact fin v (.inl ⟨h1, hrun⟩) (next j _ _ hwp)
          · exact fin undef (.inr ⟨h1, rfl⟩) (next j _ _ h2)
        · refine wpAny_all hr (by simp) fun j hj => ?_
          have hj' := allI_at _ h j hj
          split at hj'
          · rename_i o ho
            unfold wpOp
            rw [ho]
            simp only
            rcases pwOne_ok hE hKn hA hn R hj' with ⟨h1, G, R1, h2⟩ | ⟨h1, h2⟩
            · rw [h1, if_pos rfl]
              exact .inl (Oper.wp_mono (next j) (pwOp_ok hE hKn hA hn R1 h2))
            · rw [h1, if_neg (by simp)]
              exact next j _ _ h2
          · exact hj'.elim

theorem drew_ok (R : Rel C F ow a w) (n : Nat) : Rel C F ow a { w with drawn := n } :=
  R.change (fun _ _ h => h) (fun _ h => ⟨h, rfl⟩) (fun _ _ _ => ⟨rfl, fun _ _ _ _ h => ⟨h, rfl⟩, fun _ _ => ⟨rfl, fun _ h => ⟨h, rfl⟩⟩⟩) rfl rfl (fun _ _ => rfl) R.own (fun _ _ _ _ => rfl) (Nat.le_refl _) rfl rfl rfl

/-! ### what lives on -/

theorem grab_congr : ∀ (live : List (Nat × Ty)) (F G : Fr), (∀ p ∈ live, F p.1 = G p.1) → grab A F live = grab A G live
  | [], _, _, _ => rfl
  | (s, t) :: r, F, G, h => by
    unfold grab
    rw [h (s, t) (by simp), grab_congr r F G (fun p hp => h p (by simp [hp]))]

theorem mkFr_notin : ∀ (live : List (Nat × Ty)) (ds : List D) (q : Nat) (e : Ent), mkFr live ds q = some e → ∃ t d, e = .val t d ∧ (q, t) ∈ live
  | [], _, _, _, h => by simp [mkFr] at h
  | (s, t) :: r, [], _, _, h => by simp [mkFr] at h
  | (s, t) :: r, d :: ds, q, e, h => by
    unfold mkFr at h
    cases hb : Nat.beq q s with
    | true =>
      rw [hb] at h
      simp only [cond_true, Option.some.injEq] at h
      exact ⟨t, d, h.symm, by rw [Nat.eq_of_beq_eq_true hb]; simp⟩
    | false =>
      rw [hb] at h
      obtain ⟨t', d', h1, h2⟩ := mkFr_notin r ds q e h
      exact ⟨t', d', h1, by simp [h2]⟩

theorem grab_ok (hA : A.prot = C.prot) : ∀ (live : List (Nat × Ty)) (ds : List D) (F : Fr) (ow : Nat → Option Nat), (∀ q e, F q = some e → ∃ t d, e = .val t d) → Rel C F ow a w → distinct live = true → grab A F live = some ds →
    ∃ F' ow', Rel C F' ow' a w ∧ (∀ q e, mkFr live ds q = some e → F' q = some e) ∧ (∀ q, (∀ p ∈ live, p.1 ≠ q) → F' q = F q) ∧ ds.length = live.length
  | [], ds, F, ow, _, R, _, h => by
    simp only [grab, Option.some.injEq] at h
    subst h
    exact ⟨F, ow, R, fun q e hq => by simp [mkFr] at hq, fun _ _ => rfl, rfl⟩
  | (s, t) :: r, ds, F, ow, hv, R, hd, h => by
    unfold grab at h
    simp only [distinct, Bool.and_eq_true, Bool.not_eq_true', List.any_eq_false] at hd
    obtain ⟨hs, hd⟩ := hd
    have hs' : ∀ p ∈ r, p.1 ≠ s := fun p hp e => by have := hs p hp; rw [e, Nat.beq_refl] at this; simp at this
    split at h
    · rename_i t' d hF
      split at h
      · rename_i hk
        simp only [Option.map_eq_some_iff] at h
        obtain ⟨ds', hds, rfl⟩ := h
        have step : ∀ (F1 : Fr) (ow1 : Nat → Option Nat), (∀ q e, F1 q = some e → ∃ t d, e = .val t d) → Rel C F1 ow1 a w → F1 s = some (.val t d) → (∀ q, q ≠ s → F1 q = F q) →
            ∃ F' ow', Rel C F' ow' a w ∧ (∀ q e, mkFr ((s, t) :: r) (d :: ds') q = some e → F' q = some e) ∧ (∀ q, (∀ p ∈ (s, t) :: r, p.1 ≠ q) → F' q = F q) ∧ (d :: ds').length = ((s, t) :: r).length := by
          intro F1 ow1 hv1 R1 h1 h2
          obtain ⟨F', ow', R', k1, k2, k3⟩ := grab_ok hA r ds' F1 ow1 hv1 R1 hd (by rw [← hds]; exact grab_congr r F1 F (fun p hp => h2 p.1 (hs' p hp)))
          refine ⟨F', ow', R', fun q e hq => ?_, fun q hq => ?_, by simp [k3]⟩
          · unfold mkFr at hq
            cases hb : Nat.beq q s with
            | true =>
              rw [hb] at hq
              simp only [cond_true, Option.some.injEq] at hq
              rw [Nat.eq_of_beq_eq_true hb, k2 s hs', h1, hq]
            | false => rw [hb] at hq; exact k1 q e hq
          · rw [k2 q (fun p hp => hq p (by simp [hp])), h2 q (fun e => hq (s, t) (by simp) e.symm)]
        by_cases ht : t' = t
        · subst ht
          exact step F ow hv R hF (fun _ _ => rfl)
        · simp only [ht, decide_false, Bool.false_or, Bool.and_eq_true, decide_eq_true_eq, Bool.not_eq_true'] at hk
          obtain ⟨hk1, hk2⟩ := hk
          have hfr : F.freeze A s = some fun q => bif Nat.beq q s then some (.val t'.frz d) else (F q).map (·.frzAt s) := by
            unfold Fr.freeze; rw [hF]; simp only [hk2]; rfl
          obtain ⟨R1, _, _⟩ := R.freeze hA hfr
          have hne : ∀ q, q ≠ s → (bif Nat.beq q s then some (Ent.val t'.frz d) else (F q).map (·.frzAt s)) = F q := by
            intro q hq
            have : Nat.beq q s = false := by cases hb : Nat.beq q s with | true => exact absurd (Nat.eq_of_beq_eq_true hb) hq | false => rfl
            rw [this]
            simp only [cond_false]
            cases hFq : F q with
            | none => rfl
            | some e => obtain ⟨t0, d0, rfl⟩ := hv q e hFq; rfl
          refine step _ _ (fun q e hq => ?_) R1 (by simp [hk1]) hne
          by_cases hqs : q = s
          · subst hqs
            simp only [Nat.beq_refl, cond_true, Option.some.injEq] at hq
            exact ⟨_, _, hq.symm⟩
          · rw [hne q hqs] at hq
            exact hv q e hq
      · cases h
    · cases h

theorem live_ok {live : List (Nat × Ty)} {ds : List D} (hA : A.prot = C.prot) (R : Rel C F ow a w) (hd : distinct live = true) (h : grab A F live = some ds) : ds.length = live.length ∧ ∃ ow', Rel C (fun q => mkFr live ds q) ow' a w := by
  let G : Fr := fun q => match F q with | some (.val t d) => some (.val t d) | _ => none
  have hG : ∀ q e, G q = some e → F q = some e ∧ ∃ t d, e = .val t d := by
    intro q e hq
    have hq : (match F q with | some (.val t d) => some (Ent.val t d) | _ => none) = some e := hq
    split at hq
    · rename_i t d hF
      simp only [Option.some.injEq] at hq
      exact ⟨by rw [hF, hq], t, d, hq.symm⟩
    · cases hq
  have hg : grab A G live = some ds := by
    rw [← h]
    clear h hd
    induction live with
    | nil => rfl
    | cons p r ih =>
      obtain ⟨s, t⟩ := p
      unfold grab
      rw [ih]
      show (match (match F s with | some (.val t d) => some (Ent.val t d) | _ => none) with | some (.val t' d) => _ | _ => none) = _
      cases F s with
      | none => rfl
      | some e => cases e <;> rfl
  obtain ⟨F', ow', R', k1, _, k3⟩ := grab_ok hA live ds G ow (fun q e hq => (hG q e hq).2) (R.sub fun q e hq => (hG q e hq).1) hd hg
  exact ⟨k3, ow', R'.sub k1⟩

theorem orL_some {o : Option (List D)} {K : List D → Prop} (h : orL o K) : ∃ l, o = some l ∧ K l := by
  cases o with
  | none => exact h.elim
  | some l => exact ⟨l, rfl, h⟩

theorem allD_at : ∀ (n : Nat) (k : List D → Prop), allD n k → ∀ ds : List D, ds.length = n → k ds
  | 0, k, h, [], _ => h
  | n + 1, k, h, d :: ds, hl => allD_at n (fun ds => k (d :: ds)) (h d) ds (by simpa using hl)
  | 0, _, _, _ :: _, h => by cases h
  | _ + 1, _, _, [], h => by cases h

/-- A loop whose invariant and measure are of data. -/
theorem wp_loop_of {X : Type} {c : Code} (I : X → Act → World → Prop) (μ : X → Nat) (x : X) (h0 : I x a w)
    (round : ∀ x a w, I x a w → c.wp P (Exit.then (fun a' w' => ∃ x', I x' a' w' ∧ μ x' < μ x) Q) a w) : (Code.loop c).wp P Q a w := by
  have least : ∀ (p : Nat → Prop) (n : Nat), p n → ∃ m, p m ∧ ∀ k, p k → m ≤ k := by
    intro p n
    induction n using Nat.strongRecOn with
    | _ n ih =>
      intro hn
      by_cases h : ∃ m, m < n ∧ p m
      · obtain ⟨m, hm, hpm⟩ := h
        exact ih m hm hpm
      · exact ⟨n, hn, fun k hk => Nat.le_of_not_lt fun hlt => h ⟨k, hlt, hk⟩⟩
  let good : Act → World → Nat → Prop := fun a w n => ∃ x, I x a w ∧ μ x = n
  have hex : ∀ a w, ∃ m, (∃ n, good a w n) → good a w m ∧ ∀ k, good a w k → m ≤ k := by
    intro a w
    by_cases h : ∃ n, good a w n
    · obtain ⟨n, hn⟩ := h
      obtain ⟨m, h1, h2⟩ := least _ n hn
      exact ⟨m, fun _ => ⟨h1, h2⟩⟩
    · exact ⟨0, fun h' => absurd h' h⟩
  refine wp_loop (fun a w => ∃ n, good a w n) (fun a w => Classical.choose (hex a w)) ⟨_, x, h0, rfl⟩ fun a w hI => ?_
  obtain ⟨⟨x, hx, hμ⟩, hmin⟩ := Classical.choose_spec (hex a w) hI
  refine wp_mono (round x a w hx) fun e a' w' hq => ?_
  cases e with
  | normal =>
    obtain ⟨x', hx', hlt⟩ := hq
    have hg : ∃ n, good a' w' n := ⟨_, x', hx', rfl⟩
    refine ⟨hg, ?_⟩
    have := (Classical.choose_spec (hex a' w') hg).2 _ ⟨x', hx', rfl⟩
    omega
  | _ => exact hq

def PExit.to : PExit → Exit
  | .normal => .normal
  | .exit id => .exit id
  | .ret => .ret

theorem pw_ok (hE : EnvOk P E) (hKn : Known P E) (hA : A.prot = C.prot) (hn : A.n = C.n) : ∀ (c : Code) (F : Fr) (ow : Nat → Option Nat) (a : Act) (w : World) (K : PExit → Fr → Prop) (Q : Exit → Act → World → Prop),
    (∀ e F ow a w, K e F → Rel C F ow a w → Q e.to a w) → pw E A c F K → Rel C F ow a w → c.wp P Q a w
  | .skip, F, ow, a, w, K, Q, hQ, h, R => wp_skip (hQ .normal F ow a w h R)
  | .label l, F, ow, a, w, K, Q, hQ, h, R => wp_label (hQ .normal F ow a w h R)
  | .ret, F, ow, a, w, K, Q, hQ, h, R => wp_ret (hQ .ret F ow a w h R)
  | .exit id, F, ow, a, w, K, Q, hQ, h, R => wp_exit (hQ (.exit id) F ow a w h R)
  | .region id ops draw, F, ow, a, w, K, Q, hQ, h, R => by
    cases draw with
    | true =>
      refine wp_mono (Q := fun e a w => (∃ F ow, K .normal F ∧ Rel C F ow a w) ∧ e = .normal) (wp_region_any hKn.1 (pwAny_ok hE hKn hA hn (fun F ow a w hk R => ⟨⟨F, ow, hk, R⟩, rfl⟩) (fun c a w h => by cases h.2) (gate_true h).1 ops.size _ F ow a _ (drew_ok R _) (gate_true h).2)) ?_
      rintro e a w ⟨⟨F, ow, hk, R⟩, rfl⟩
      exact hQ .normal F ow a w hk R
    | false => exact wp_region_list (pwOps_ok hE hKn hA hn (fun F ow a w hk R => hQ .normal F ow a w hk R) ops.toList 0 F ow a w R h)
  | .seq x y, F, ow, a, w, K, Q, hQ, h, R => by
    unfold pw at h
    refine wp_seq ?_
    split at h
    · refine pw_ok hE hKn hA hn x F ow a w _ _ (fun e F1 ow1 a1 w1 hk R1 => ?_) h R
      cases e with
      | normal => exact pw_ok hE hKn hA hn y F1 ow1 a1 w1 K Q hQ hk R1
      | exit id => exact hQ (.exit id) F1 ow1 a1 w1 hk R1
      | ret => exact hQ .ret F1 ow1 a1 w1 hk R1
    · rename_i live _
      obtain ⟨hd, J, h1, h2⟩ := gate_true h
      refine pw_ok hE hKn hA hn x F ow a w _ _ (fun e F1 ow1 a1 w1 hk R1 => ?_) h1 R
      cases e with
      | normal =>
        obtain ⟨ds, hg, hJ⟩ := orL_some hk
        obtain ⟨hl, ow2, R2⟩ := live_ok hA R1 hd hg
        exact pw_ok hE hKn hA hn y _ ow2 a1 w1 K Q hQ (allD_at _ _ h2 ds hl hJ) R2
      | exit id => exact hQ (.exit id) F1 ow1 a1 w1 hk R1
      | ret => exact hQ .ret F1 ow1 a1 w1 hk R1
  | .cond c x y, F, ow, a, w, K, Q, hQ, h, R => by
    unfold pw at h
    split at h
    · rename_i s
      split at h
      · rename_i d hF
        have hv : a.eval (.tmp s) = .bool d.toB := by
          obtain ⟨cs, e1, h1⟩ := R.ents s _ hF
          have h1 : cs = [.bool d.toB] := h1
          rw [eval_tmp, e1, h1]; rfl
        rw [sel_iff] at h
        exact wp_cond_split hv (fun hb => pw_ok hE hKn hA hn x _ ow a w K Q hQ (h.1 hb) (know_ok R hF hb))
          (fun hb => pw_ok hE hKn hA hn y _ ow a w K Q hQ (h.2 hb) (know_ok R hF hb))
      · exact h.elim
    · exact h.elim
  | .block id c, F, ow, a, w, K, Q, hQ, h, R => by
    unfold pw at h
    refine wp_block (pw_ok hE hKn hA hn c F ow a w _ _ (fun e F1 ow1 a1 w1 hk R1 => ?_) h R)
    cases e with
    | normal => exact hQ .normal F1 ow1 a1 w1 hk R1
    | exit id' =>
      simp only [PExit.to, Exit.inBlock]
      simp only at hk
      split at hk
      · rename_i hb
        rw [if_pos (Nat.eq_of_beq_eq_true hb)]
        exact hQ .normal F1 ow1 a1 w1 hk R1
      · rename_i hb
        rw [if_neg (fun e => by rw [e, Nat.beq_refl] at hb; cases hb)]
        exact hQ (.exit id') F1 ow1 a1 w1 hk R1
    | ret => exact hQ .ret F1 ow1 a1 w1 hk R1
  | .loop c, F, ow, a, w, K, Q, hQ, h, R => by
    unfold pw at h
    split at h
    · exact h.elim
    · rename_i live _
      obtain ⟨hd, J, μ, h0, h1⟩ := gate_true h
      obtain ⟨ds, hg, hJ⟩ := orL_some h0
      obtain ⟨hl, ow1, R1⟩ := live_ok hA R hd hg
      refine wp_loop_of (X := List D) (fun ds a w => ds.length = live.length ∧ J ds ∧ ∃ ow, Rel C (fun q => mkFr live ds q) ow a w) μ ds ⟨hl, hJ, ow1, R1⟩ ?_
      rintro ds a w ⟨hl, hJ, ow, R⟩
      refine pw_ok hE hKn hA hn c _ ow a w _ _ (fun e F1 ow1 a1 w1 hk R1 => ?_) (allD_at _ _ h1 ds hl hJ) R
      cases e with
      | normal =>
        obtain ⟨ds', hg', hJ', hlt⟩ := orL_some hk
        obtain ⟨hl', ow2, R2⟩ := live_ok hA R1 hd hg'
        exact ⟨ds', ⟨hl', hJ', ow2, R2⟩, hlt⟩
      | exit id => exact hQ (.exit id) F1 ow1 a1 w1 hk R1
      | ret => exact hQ .ret F1 ow1 a1 w1 hk R1
  | .goto _, _, _, _, _, _, _, _, h, _ => by unfold pw at h; exact h.elim

end
end Go.Pi
