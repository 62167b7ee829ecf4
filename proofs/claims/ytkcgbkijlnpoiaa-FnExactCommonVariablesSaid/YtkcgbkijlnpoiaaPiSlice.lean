/- Each operation does what the generator says: slice expressions. -/
import Derived.Test.YtkcgbkijlnpoiaaPiMake2
namespace Go.Pi

section
variable {P : Program} {C : Ctx} {T : Nat → TI} {A : Ann} {F F1 : Fr} {ow : Nat → Option Nat} {a : Act} {w : World} {e : Ent} {vc : Prop} {o : Oper}

theorem toL_l (xs : List D) (z : Bool) : (D.l xs z).toL = xs := rfl

theorem cut_len {xs : List D} {l h : Int} (h2 : h ≤ xs.length) : (cut xs l h).length = h.toNat - l.toNat := by
  unfold cut; simp; omega

theorem cut_get {xs : List D} {l h : Int} {i : Nat} {x : D} (hx : (cut xs l h)[i]? = some x) : xs[l.toNat + i]? = some x ∧ l.toNat + i < h.toNat := by
  unfold cut at hx
  rw [List.getElem?_drop, List.getElem?_take] at hx
  split at hx
  · exact ⟨hx, by assumption⟩
  · cases hx

theorem bound_run {d : Int} {x : Option Operand} {l : Int} (R : Rel C F ow a w) (h : bound T F d x = some l) :
    (x = none ∧ l = d) ∨ ∃ x' k, x = some x' ∧ a.eval x' = .int k l := by
  cases x with
  | none => simp only [bound, Option.some.injEq] at h; exact .inl ⟨rfl, h.symm⟩
  | some x' =>
    simp only [bound] at h
    rw [Option.bind_eq_some_iff] at h
    obtain ⟨⟨t, d'⟩, hx, h⟩ := h
    simp only at h
    split at h
    · rename_i k
      simp only [Option.some.injEq] at h
      subst h
      exact .inr ⟨x', _, rfl, view_int R hx⟩
    · cases h

theorem run_sliceBound {k : IntKind} {i : Int} {y : Nat} {code : BoundsCode} (h0 : 0 ≤ i) (h1 : i ≤ y) : (Instr.sliceBound (.int k i) y code).run P w = .ok i.toNat w := by
  simp [Instr.sliceBound, asIntOf, h0, h1]

theorem run_sliceAt {t e0 : Nat} {j : TypeInfo} {B : Option Addr} {n cap : Nat} {lo hi mx : Option Operand} {l h m : Int} (R : Rel C F ow a w) (hu : P.underlying t = some (.slice e0)) (hj : P.info? e0 = some j)
    (hn : n ≤ cap) (hg : mx.isNone = true ∨ hi.isSome = true) (hl : bound T F 0 lo = some l) (hh : bound T F n hi = some h) (hm : bound T F h mx = some m) (b0 : 0 ≤ l) (b1 : l ≤ h) (b2 : h ≤ m) (b3 : m ≤ n) :
    ∃ M : Nat, h.toNat ≤ M ∧ M ≤ cap ∧ (Instr.sliceAt t (.slice B n cap) (lo.map a.eval) (hi.map a.eval) (mx.map a.eval)).run P w =
      .ok (.slice (if M = l.toNat then B else B.map (·.add (l.toNat * j.size))) (h.toNat - l.toNat) (M - l.toNat)) w := by
  have ll : ∀ (y : Nat) (code : BoundsCode), l ≤ y → (match lo.map a.eval with | some v => Instr.sliceBound v y code | none => pure 0 : Sem Nat).run P w = .ok l.toNat w := by
    intro y code hy
    rcases bound_run R hl with ⟨rfl, rfl⟩ | ⟨x, k, rfl, hx⟩
    · rfl
    · simp only [Option.map_some, hx]; exact run_sliceBound b0 hy
  rcases bound_run R hm with ⟨rfl, hmh⟩ | ⟨x, k, rfl, hx⟩
  · refine ⟨cap, by omega, Nat.le_refl _, ?_⟩
    have hb : (Instr.sliceBounds true n cap (lo.map a.eval) (hi.map a.eval) none).run P w = .ok (l.toNat, h.toNat, cap) w := by
      have h1 := ll h.toNat .sliceB (by omega)
      rcases bound_run R hh with ⟨rfl, rfl⟩ | ⟨x2, k2, rfl, hx2⟩
      · simp only [Instr.sliceBounds, Option.map_none, Sem.run_bind, Sem.run_pure, Result.andThen_ok, Option.isSome_none, Bool.false_eq_true, if_false]
        have h1 : (match lo.map a.eval with | some v => Instr.sliceBound v n .sliceB | none => pure 0 : Sem Nat).run P w = .ok l.toNat w := ll n .sliceB (by omega)
        cases lo <;> simp_all
      · have h2 := run_sliceBound (P := P) (w := w) (k := k2) (i := h) (y := cap) (code := .sliceAcap) (by omega) (by omega)
        cases lo <;> simp_all [Instr.sliceBounds]
    simp [Instr.sliceAt, Instr.slice, run_underlying hu, hb, sizeOf, typeInfo, hj]
  · refine ⟨m.toNat, by omega, by omega, ?_⟩
    have h3 := run_sliceBound (P := P) (w := w) (k := k) (i := m) (y := cap) (code := .slice3Acap) (by omega) (by omega)
    have hb : (Instr.sliceBounds true n cap (lo.map a.eval) (hi.map a.eval) (some (.int k m))).run P w = .ok (l.toNat, h.toNat, m.toNat) w := by
      have h1 := ll h.toNat .slice3C (by omega)
      rcases bound_run R hh with ⟨rfl, rfl⟩ | ⟨x2, k2, rfl, hx2⟩
      · simp at hg
      · have h2 := run_sliceBound (P := P) (w := w) (k := k2) (i := h) (y := m.toNat) (code := .slice3B) (by omega) (by omega)
        cases lo <;> simp_all [Instr.sliceBounds]
    simp [Instr.sliceAt, Instr.slice, run_underlying hu, hx, hb, sizeOf, typeInfo, hj]

theorem cut_hdr {B : Option Addr} {M l z : Nat} : (if M = l then B else B.map (·.add (l * z))).isNone = B.isNone := by
  split <;> simp

theorem cut_rd {S : Nat → Prop} {τ : Ty} {d : D} {B : Option Addr} {cap : Nat} {l h : Int} {M : Nat} (b0 : 0 ≤ l) (b1 : l ≤ h) (b2 : h ≤ d.toL.length) (h1 : h.toNat ≤ M) (h2 : M ≤ cap)
    (hr : rd w S (.sl false τ) d [.slice B d.toL.length cap]) :
    rd w S (.sl false τ) (.l (cut d.toL l h) d.toZ) [.slice (if M = l.toNat then B else B.map (·.add (l.toNat * τ.size))) (h.toNat - l.toNat) (M - l.toNat)] := by
  obtain ⟨A, cap', e1, e2, e3, e4, h3⟩ := hr
  simp only [List.cons.injEq, Value.slice.injEq, and_true] at e1
  obtain ⟨rfl, _, rfl⟩ := e1
  refine ⟨_, _, by rw [toL_l, cut_len b2], by rw [cut_hdr]; exact e2, ?_, by rw [toL_l, cut_len b2]; omega, fun i x hx => ?_⟩
  · intro hn
    have : B = none := by
      have := congrArg Option.isNone hn
      rw [cut_hdr] at this
      simpa using this
    have := e3 this
    omega
  · obtain ⟨k1, k2⟩ := cut_get hx
    obtain ⟨aa, cells, rfl, hs, hS, hn, hrd, hl⟩ := h3 _ x k1
    have hM : ¬ M = l.toNat := by omega
    refine ⟨aa.add (l.toNat * τ.size), cells, by rw [if_neg hM]; rfl, ?_, ?_, hn, hrd, ?_⟩
    · rw [add_spot hs]
    · rw [add_spot hs]; exact hS
    · rw [add_spot hs]
      have : aa.off + l.toNat * τ.size + i * τ.size = aa.off + (l.toNat + i) * τ.size := by rw [Nat.add_mul]; omega
      rw [this]; exact hl

theorem cut_look {S X : Nat → Prop} {τ : Ty} {d : D} {B : Option Addr} {cap : Nat} {l h : Int} {M : Nat} (b0 : 0 ≤ l) (b1 : l ≤ h) (b2 : h ≤ d.toL.length) (h1 : h.toNat ≤ M) (h2 : M ≤ cap)
    (hr : look w S X (.sl true τ) d [.slice B d.toL.length cap]) :
    look w S X (.sl true τ) (.l (cut d.toL l h) d.toZ) [.slice (if M = l.toNat then B else B.map (·.add (l.toNat * τ.size))) (h.toNat - l.toNat) (M - l.toNat)] := by
  obtain ⟨A, cap', e1, e2, e3, e4, h3⟩ := hr
  simp only [List.cons.injEq, Value.slice.injEq, and_true] at e1
  obtain ⟨rfl, _, rfl⟩ := e1
  refine ⟨_, _, by rw [toL_l, cut_len b2], by rw [cut_hdr]; exact e2, ?_, by rw [toL_l, cut_len b2]; omega, fun i x hx => ?_⟩
  · intro hn
    have : B = none := by
      have := congrArg Option.isNone hn
      rw [cut_hdr] at this
      simpa using this
    have := e3 this
    omega
  · obtain ⟨k1, k2⟩ := cut_get hx
    obtain ⟨aa, cells, rfl, hs, hS, hn, hrd, hl⟩ := h3 _ x k1
    have hM : ¬ M = l.toNat := by omega
    refine ⟨aa.add (l.toNat * τ.size), cells, by rw [if_neg hM]; rfl, ?_, ?_, hn, hrd, ?_⟩
    · rw [add_spot hs]
    · rw [add_spot hs]; exact hS
    · rw [add_spot hs]
      have : aa.off + l.toNat * τ.size + i * τ.size = aa.off + (l.toNat + i) * τ.size := by rw [Nat.add_mul]; omega
      rw [this]; exact hl

theorem cut_rep {S O : Nat → Prop} {τ : Ty} {d : D} {B : Option Addr} {cap : Nat} {l h : Int} {M : Nat} (b0 : 0 ≤ l) (b1 : l ≤ h) (b2 : h ≤ d.toL.length) (h1 : h.toNat ≤ M) (h2 : M ≤ cap)
    (hr : rep w S (.sl true τ) O d [.slice B d.toL.length cap]) :
    rep w S (.sl true τ) O (.l (cut d.toL l h) d.toZ) [.slice (if M = l.toNat then B else B.map (·.add (l.toNat * τ.size))) (h.toNat - l.toNat) (M - l.toNat)] := by
  rcases hr with ⟨e1, e2, e3⟩ | ⟨g, q, cap', c, te, e1, e2, hO, hc, hb, hl, f, hr⟩
  · simp only [List.cons.injEq, Value.slice.injEq, and_true] at e1
    obtain ⟨rfl, _, rfl⟩ := e1
    refine .inl ⟨?_, ?_, e3⟩
    · rw [e2] at b2
      simp only [List.length_nil] at b2
      have : h.toNat = 0 := by omega
      rw [this]
      have : M = 0 := by omega
      subst this
      simp
    · rw [toL_l]; simp [cut, e2]
  · simp only [List.cons.injEq, Value.slice.injEq, and_true] at e1
    obtain ⟨rfl, _, rfl⟩ := e1
    have hle : (l.toNat + (M - l.toNat)) * τ.size ≤ cap * τ.size := Nat.mul_le_mul_right _ (by omega)
    rw [Nat.add_mul] at hle
    refine .inr ⟨g, if M = l.toNat then q else q + l.toNat * τ.size, M - l.toNat, c, te, ?_, e2, hO, hc, ?_, ?_, fun b => f b - l.toNat, fun i x hx => ?_⟩
    · rw [toL_l, cut_len b2]
      split <;> simp [add_plain]
    · split <;> omega
    · rw [toL_l, cut_len b2]; omega
    · obtain ⟨k1, k2⟩ := cut_get hx
      obtain ⟨cells, hn, hrep, hlie⟩ := hr _ x k1
      have hM : ¬ M = l.toNat := by omega
      refine ⟨cells, hn, rep_mono (fun _ h => ⟨h, rfl⟩) _ _ _ _ _ (fun b hb => ⟨⟨hb.1, by have := hb.2; show f b - l.toNat = i; omega⟩, rfl⟩) hrep, ?_⟩
      rw [if_neg hM]
      have : q + l.toNat * τ.size + i * τ.size = q + (l.toNat + i) * τ.size := by rw [Nat.add_mul]; omega
      rw [this]; exact hlie

theorem sliceE_ok {t an : Nat} {x : Operand} {lo hi mx : Option Operand} (hT : TOk P T) (hA : A.prot = C.prot) (R : Rel C F ow a w) (ho : o.op = .slice t x lo hi mx) (h : sliceE T A an t x lo hi mx F = some (F1, e, vc)) (hv : vc) : OpOk P C o a w F1 e := by
  unfold sliceE at h
  replace h := bind_guard h; obtain ⟨hg, h⟩ := h
  rw [Bool.or_eq_true] at hg
  rw [Option.bind_eq_some_iff] at h
  obtain ⟨e0, he, h⟩ := h
  have h1 := hT t
  split at h
  · -- a string
    rename_i d ht
    rw [ht] at h1
    obtain ⟨_, _, _, _, _, hu⟩ := h1
    replace h := bind_guard h; obtain ⟨hmx, h⟩ := h
    rw [Option.bind_eq_some_iff] at h
    obtain ⟨l, hl, h⟩ := h
    rw [Option.bind_eq_some_iff] at h
    obtain ⟨r, hr, h⟩ := h
    simp only [resIf, Option.some.injEq, Prod.mk.injEq] at h
    obtain ⟨rfl, rfl, rfl⟩ := h
    obtain ⟨b0, b1, b2⟩ := hv
    have hview : view T t F x = some (.str, d) := by unfold view; rw [he]
    have hx := view_str R hview
    have hmx' : mx = none := by cases mx <;> simp_all
    subst hmx'
    refine ⟨.string (d.toS.extract l.toNat r.toNat), w, ?_, Left.str _ R⟩
    have hb : (Instr.sliceBounds false d.toS.size d.toS.size (lo.map a.eval) (hi.map a.eval) none).run P w = .ok (l.toNat, r.toNat, d.toS.size) w := by
      rcases bound_run R hr with ⟨rfl, rfl⟩ | ⟨x2, k2, rfl, hx2⟩
      · rcases bound_run R hl with ⟨rfl, rfl⟩ | ⟨x1, k1, rfl, hx1⟩
        · simp [Instr.sliceBounds]
        · have := run_sliceBound (P := P) (w := w) (k := k1) (i := l) (y := d.toS.size) (code := .sliceB) b0 b1
          simp [Instr.sliceBounds, hx1, this]
      · have q2 := run_sliceBound (P := P) (w := w) (k := k2) (i := r) (y := d.toS.size) (code := .sliceAlen) (by omega) b2
        rcases bound_run R hl with ⟨rfl, rfl⟩ | ⟨x1, k1, rfl, hx1⟩
        · simp [Instr.sliceBounds, hx2, q2]
        · have := run_sliceBound (P := P) (w := w) (k := k1) (i := l) (y := r.toNat) (code := .sliceB) b0 (by omega)
          simp [Instr.sliceBounds, hx2, q2, hx1, this]
    simp [execOp, ho, hx, Instr.sliceAt, Instr.slice, run_underlying hu, hb]
  · -- a value
    rename_i e1 bytes et ob τ d ht
    rw [ht] at h1
    obtain ⟨_, j, _, _, hu, _, hj, hjs, _⟩ := h1
    replace h := bind_guard h; obtain ⟨hz, h⟩ := h
    have hz := Nat.eq_of_beq_eq_true hz
    rw [Option.bind_eq_some_iff] at h
    obtain ⟨l, hl, h⟩ := h
    rw [Option.bind_eq_some_iff] at h
    obtain ⟨r, hr, h⟩ := h
    rw [Option.bind_eq_some_iff] at h
    obtain ⟨m, hm, h⟩ := h
    have run : ∀ {B : Option Addr} {cap : Nat}, a.eval x = .slice B d.toL.length cap → d.toL.length ≤ cap → 0 ≤ l → l ≤ r → r ≤ m → m ≤ d.toL.length →
        ∃ M : Nat, r.toNat ≤ M ∧ M ≤ cap ∧ (execOp a.eval o).run P w = .ok (.value (.slice (if M = l.toNat then B else B.map (·.add (l.toNat * τ.size))) (r.toNat - l.toNat) (M - l.toNat))) w := by
      intro B cap hx hc b0 b1 b2 b3
      obtain ⟨M, k1, k2, k3⟩ := run_sliceAt (P := P) (B := B) R hu hj hc hg hl hr hm b0 b1 b2 b3
      rw [hjs, ← hz] at k3
      exact ⟨M, k1, k2, by simp [execOp, ho, hx, k3]⟩
    split at h
    · simp only [resIf, Option.some.injEq, Prod.mk.injEq] at h
      obtain ⟨rfl, rfl, rfl⟩ := h
      obtain ⟨b0, b1, b2, b3⟩ := hv
      have hview : view T t F x = some (.sl false τ, d) := by unfold view; rw [he]
      obtain ⟨cs, hx, hlk⟩ := view_look R hview
      obtain ⟨B, cap, rfl, _, _, hc⟩ := look_sl hlk
      obtain ⟨M, k1, k2, k3⟩ := run hx hc b0 b1 b2 b3
      exact ⟨_, w, k3, Left.of_rd R rfl (cs := [_]) rfl (cut_rd b0 b1 (by omega) k1 k2 hlk)⟩
    · split at h
      · rename_i s
        rw [Option.bind_eq_some_iff] at h
        obtain ⟨⟨F2, t2, d2⟩, htk, h⟩ := h
        simp only [resIf, Option.some.injEq, Prod.mk.injEq] at h
        obtain ⟨rfl, rfl, rfl⟩ := h
        obtain ⟨b0, b1, b2, b3⟩ := hv
        obtain ⟨hF, _, _, R', cs, hx, hrep⟩ := R.take hA htk
        rw [show F s = some _ from he] at hF
        cases hF
        have hlk := rep_look _ _ (fun _ => True) _ _ (fun _ _ => trivial) hrep
        obtain ⟨B, cap, rfl, _, _, hc⟩ := look_sl hlk
        obtain ⟨M, k1, k2, k3⟩ := run hx hc b0 b1 b2 b3
        exact ⟨_, w, k3, _, R', ⟨[_], rfl, cut_rep b0 b1 (by omega) k1 k2 hrep⟩, fun r hr => by cases hr⟩
      · rename_i hnt
        simp only [resIf, Option.some.injEq, Prod.mk.injEq] at h
        obtain ⟨rfl, rfl, rfl⟩ := h
        obtain ⟨b0, b1, b2, b3⟩ := hv
        cases x with
        | tmp s => exact absurd rfl (hnt s)
        | func f => cases he
        | global g => cases he
        | const v =>
          simp only [ev] at he
          cases hc : constEnt T t v with
          | none => rw [hc] at he; cases he
          | some q =>
            rw [hc] at he
            simp only [Option.map_some, Option.some.injEq, Ent.val.injEq] at he
            obtain ⟨q1, q2⟩ := q
            obtain ⟨rfl, rfl⟩ := he
            obtain ⟨cs, hx, hlk, hrep⟩ := const_look hc w (Stb C ow w) (fun b => ow b = some C.n)
            obtain ⟨B, cap, rfl, _, _, hc'⟩ := look_sl hlk
            obtain ⟨M, k1, k2, k3⟩ := run (show a.eval (.const v) = _ from hx) hc' b0 b1 b2 b3
            exact ⟨_, w, k3, ow, R, ⟨[_], rfl, cut_rep b0 b1 (by omega) k1 k2 hrep⟩, fun r hr => by cases hr⟩
  · -- a look
    rename_i e1 bytes et τ d r0 π ht
    rw [ht] at h1
    obtain ⟨_, j, _, _, hu, _, hj, hjs, _⟩ := h1
    replace h := bind_guard h; obtain ⟨hz, h⟩ := h
    have hz := Nat.eq_of_beq_eq_true hz
    rw [Option.bind_eq_some_iff] at h
    obtain ⟨l, hl, h⟩ := h
    rw [Option.bind_eq_some_iff] at h
    obtain ⟨r, hr, h⟩ := h
    rw [Option.bind_eq_some_iff] at h
    obtain ⟨m, hm, h⟩ := h
    obtain ⟨s, rfl, hF⟩ := ev_pk he
    obtain ⟨cs, hx, hlk, hpl⟩ := R.ents s _ hF
    obtain ⟨B, cap, rfl, _, _, hc⟩ := look_sl hlk
    have hroot := R.root s _ _ hF rfl
    have run : 0 ≤ l → l ≤ r → r ≤ m → m ≤ d.toL.length →
        ∃ M : Nat, r.toNat ≤ M ∧ M ≤ cap ∧ (execOp a.eval o).run P w = .ok (.value (.slice (if M = l.toNat then B else B.map (·.add (l.toNat * τ.size))) (r.toNat - l.toNat) (M - l.toNat))) w := by
      intro b0 b1 b2 b3
      obtain ⟨M, k1, k2, k3⟩ := run_sliceAt (P := P) (B := B) R hu hj hc hg hl hr hm b0 b1 b2 b3
      rw [hjs, ← hz] at k3
      exact ⟨M, k1, k2, by simp [execOp, ho, eval_tmp, hx, mkV, k3]⟩
    split at h
    · simp only [Option.some.injEq, Prod.mk.injEq] at h
      obtain ⟨rfl, rfl, rfl⟩ := h
      obtain ⟨b0, b1, b2, b3⟩ := hv
      obtain ⟨M, k1, k2, k3⟩ := run b0 b1 b2 b3
      exact ⟨_, w, k3, ow, R, ⟨[_], rfl, cut_look b0 b1 (by omega) k1 k2 hlk, fun σ hσ => by cases hσ⟩, fun r' hr' => by cases hr'; exact hroot⟩
    · rw [Option.bind_eq_some_iff] at h
      obtain ⟨F2, hfz, h⟩ := h
      simp only [resIf, Option.some.injEq, Prod.mk.injEq] at h
      obtain ⟨rfl, rfl, rfl⟩ := h
      obtain ⟨b0, b1, b2, b3⟩ := hv
      obtain ⟨M, k1, k2, k3⟩ := run b0 b1 b2 b3
      obtain ⟨R', _, hst⟩ := R.freeze hA hfz
      have hrd : rd w (Stb C (give ow r0 none) w) (.sl false τ.frz) d [.slice B d.toL.length cap] := look_frz (t := .sl true τ) (O' := fun _ => False) (fun b h => hst b (.inl h)) (fun b h => hst b (.inr h)) hlk
      have := cut_rd b0 b1 (by omega) k1 k2 hrd
      rw [size_frz] at this
      exact ⟨_, w, k3, Left.of_rd R' rfl (cs := [_]) rfl this⟩
    · split at h
      · rw [Option.bind_eq_some_iff] at h
        obtain ⟨⟨F2, t2, d2⟩, htk, h⟩ := h
        replace h := bind_guard h; obtain ⟨hty, h⟩ := h
        have hty : t2 = .sl true τ := of_decide_eq_true hty
        subst hty
        simp only [resIf, Option.some.injEq, Prod.mk.injEq] at h
        obtain ⟨rfl, rfl, rfl⟩ := h
        obtain ⟨b0, b1, b2, b3⟩ := hv
        obtain ⟨M, k1, k2, k3⟩ := run b0 b1 b2 b3
        obtain ⟨_, _, _, R', cs2, hx2, hrep⟩ := R.take hA htk
        have hlk2 := rep_look _ _ (fun _ => True) _ _ (fun _ _ => trivial) hrep
        obtain ⟨B2, cap2, rfl, _, _, hc2⟩ := look_sl hlk2
        have heq := (hpl [] rfl).1 rfl
        rw [hx, hx2] at heq
        simp only [mkV, List.headD_cons, Value.slice.injEq] at heq
        obtain ⟨rfl, hlen, rfl⟩ := heq
        rw [hlen] at b3
        exact ⟨_, w, k3, _, R'.header (by rw [hx2]; rfl) hroot, ⟨[_], rfl, cut_rep b0 b1 (by omega) k1 k2 hrep⟩, fun r hr => by cases hr⟩
      · cases h
  · cases h

end
end Go.Pi
