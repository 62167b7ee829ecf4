/- Each operation does what the generator says: append. -/
import Derived.Test.YtkcgbkijlnpoiaaPiWrite
namespace Go.Pi

section
variable {P : Program} {C : Ctx} {T : Nat → TI} {A : Ann} {F F1 : Fr} {ow : Nat → Option Nat} {a : Act} {w : World} {e : Ent} {vc : Prop} {o : Oper}

/-- The block of a row that is owned. -/
def Top (B : Option Addr) (b : Nat) : Prop := ∃ q, B = some ⟨b, q, none⟩

/-- A row that is owned, piece by piece. -/
theorem rows_of_rep {S O : Nat → Prop} {τ : Ty} {d : D} {cs : List Value} (h : rep w S (.sl true τ) O d cs) : ∃ (B : Option Addr) (cap : Nat) (css : List (List Value)) (f : Nat → Nat), cs = [.slice B d.toL.length cap] ∧ css.length = d.toL.length ∧
    (∀ (i : Nat) (x : D), d.toL[i]? = some x → ∃ c, css[i]? = some c ∧ c.length = τ.size ∧ rep w S τ (fun b => (O b ∧ ¬ Top B b) ∧ f b = i) x c) ∧
    ((B = none ∧ d.toL = [] ∧ cap = 0 ∧ d.toZ = true) ∨ ∃ g q c te, B = some ⟨g, q, none⟩ ∧ d.toZ = false ∧ O g ∧ w.heap[g]? = some (.cells c te (0, 0)) ∧ q + cap * τ.size ≤ c.size ∧ d.toL.length ≤ cap ∧ lies w g q css.flatten) := by
  rcases h with ⟨e1, e2, e3⟩ | ⟨g, q, cap, c, te, e1, e2, hO, hc, hb, hl, f, hr⟩
  · exact ⟨none, 0, [], fun _ => 0, by rw [e1, e2]; rfl, by rw [e2]; rfl, fun i x hx => by rw [e2] at hx; simp at hx, .inl ⟨rfl, e2, rfl, e3⟩⟩
  · obtain ⟨css, l1, h1⟩ := exists_list (Q := fun i x cells => cells.length = τ.size ∧ rep w S τ (fun b => (O b ∧ b ≠ g) ∧ f b = i) x cells ∧ lies w g (q + i * τ.size) cells) d.toL hr
    refine ⟨_, cap, css, f, e1, l1, fun i x hx => ?_, .inr ⟨g, q, c, te, rfl, e2, hO, hc, hb, hl, ?_⟩⟩
    · obtain ⟨c', k1, k2, k3, _⟩ := h1 i x hx
      refine ⟨c', k1, k2, rep_mono (fun _ h => ⟨h, rfl⟩) _ _ _ _ _ (fun b hb => ⟨⟨⟨hb.1.1, ?_⟩, hb.2⟩, rfl⟩) k3⟩
      rintro ⟨q', hq'⟩
      simp only [Option.some.injEq, Addr.mk.injEq] at hq'
      exact hb.1.2 hq'.1.symm
    · refine flat_lies css q (z := τ.size) (fun c' hc' => ?_) (fun i c' hc' => ?_)
      · obtain ⟨i, hi, rfl⟩ := List.mem_iff_getElem.mp hc'
        obtain ⟨c'', k1, k2, _⟩ := h1 i d.toL[i] (by simp [← l1, hi])
        rw [List.getElem?_eq_getElem hi] at k1
        simp only [Option.some.injEq] at k1
        rw [k1]; exact k2
      · have hi : i < d.toL.length := by rw [← l1]; exact (List.getElem?_eq_some_iff.mp hc').1
        obtain ⟨c'', k1, _, _, k4⟩ := h1 i d.toL[i] (List.getElem?_eq_getElem hi)
        rw [hc'] at k1
        simp only [Option.some.injEq] at k1
        rw [k1]; exact k4

/-- What slot n holds is given up, but for some blocks. -/
theorem Rel.releaseBut (R : Rel C F ow a w) (K : Nat → Prop) : ∃ ow1, Rel C F ow1 a w ∧ (∀ b, ow b = some C.n → K b → ow1 b = some C.n) ∧ (∀ b, Stb C ow w b ∨ (ow b = some C.n ∧ ¬ K b) → Stb C ow1 w b) := by
  classical
  let ow1 : Nat → Option Nat := fun b => if ow b = some C.n ∧ ¬ K b then none else ow b
  have hk : ∀ b s, ow b = some s → s ≠ C.n → ow1 b = some s := fun b s hb hne => by
    show (if _ then _ else _) = _
    rw [if_neg (fun h => hne (by rw [hb] at h; simpa using h.1))]; exact hb
  have hst : ∀ b, Stb C ow w b ∨ (ow b = some C.n ∧ ¬ K b) → Stb C ow1 w b := by
    rintro b (hb | hb)
    · exact ⟨hb.1, hb.2.1, by show (if _ then _ else _) = _; rw [if_neg (fun h => by rw [hb.2.2] at h; cases h.1)]; exact hb.2.2⟩
    · obtain ⟨h3, h4⟩ := R.own b _ hb.1
      exact ⟨.inr (h4.resolve_left fun h => by have := R.protlt _ h.1; omega), h3, if_pos hb⟩
  refine ⟨ow1, R.change (fun _ _ h => h) (fun b hb => ⟨hst b (.inl hb), rfl⟩) (fun q e h => ?_) rfl rfl (fun _ _ => rfl) (fun b q hb => ?_) (fun _ _ _ _ => rfl) (Nat.le_refl _) rfl rfl rfl, fun b hb hK => ?_, hst⟩
  · have hq := R.lt q e h
    exact ⟨rfl, fun _ _ _ b hb => ⟨hk b q hb (by omega), rfl⟩, fun r hr => ⟨rfl, fun b hb => ⟨hk b r hb (by have := R.root q e r h hr; omega), rfl⟩⟩⟩
  · have hb' : (if ow b = some C.n ∧ ¬ K b then none else ow b) = some q := hb
    split at hb'
    · cases hb'
    · exact R.own b q hb'
  · show (if _ then _ else _) = _
    rw [if_neg (fun h => h.2 hK)]; exact hb

theorem ownSlice_ok {t : Nat} {s : Operand} {τ : Ty} {d : D} (R : Rel C F ow a w) (hA : A.prot = C.prot) (h : ownSlice T A t F s = some (F1, τ, d)) :
    ∃ ow1 cs, Rel C F1 ow1 a w ∧ (∀ b, Stb C ow w b → Stb C ow1 w b) ∧ a.eval s = mkV (.sl true τ) cs ∧ rep w (Stb C ow1 w) (.sl true τ) (fun b => ow1 b = some C.n) d cs := by
  unfold ownSlice at h
  rw [Option.bind_eq_some_iff] at h
  obtain ⟨e0, he, h⟩ := h
  split at h
  · rename_i τ' d'
    split at h
    · rename_i q
      simp only [Option.map_eq_some_iff, Prod.mk.injEq] at h
      obtain ⟨⟨F2, t2, d2⟩, hq, rfl, rfl, rfl⟩ := h
      obtain ⟨h1, h2, h3, R', cs, h4, h5⟩ := R.take hA hq
      rw [show F q = some _ from he] at h1
      cases h1
      exact ⟨_, cs, R', fun b hb => ⟨hb.1, hb.2.1, give_none hb.2.2⟩, h4, h5⟩
    · rename_i hnt
      simp only [Option.some.injEq, Prod.mk.injEq] at h
      obtain ⟨rfl, rfl, rfl⟩ := h
      cases s with
      | tmp q => exact absurd rfl (hnt q)
      | func f => cases he
      | global g => cases he
      | const v =>
        simp only [ev] at he
        cases hc : constEnt T t v with
        | none => rw [hc] at he; cases he
        | some q =>
          rw [hc] at he
          obtain ⟨q1, q2⟩ := q
          simp only [Option.map_some, Option.some.injEq, Ent.val.injEq] at he
          obtain ⟨rfl, rfl⟩ := he
          obtain ⟨cs, k1, _, k2⟩ := const_look hc w (Stb C ow w) (fun b => ow b = some C.n)
          exact ⟨ow, cs, R, fun _ h => h, k1, k2⟩
  · rename_i τ' d' r
    rw [Option.bind_eq_some_iff] at h
    obtain ⟨⟨F2, t2, d2⟩, hq, h⟩ := h
    simp only at h
    split at h
    · rename_i τ2
      simp only [Option.some.injEq, Prod.mk.injEq] at h
      obtain ⟨rfl, rfl, rfl⟩ := h
      obtain ⟨q, rfl, hF⟩ := ev_pk he
      obtain ⟨cs', _, _, hl⟩ := R.ents q _ hF
      obtain ⟨_, _, _, R', cs, h4, h5⟩ := R.take hA hq
      exact ⟨_, cs, R', fun b hb => ⟨hb.1, hb.2.1, give_none hb.2.2⟩, by rw [eval_tmp, (hl [] rfl).1 rfl]; exact h4, h5⟩
    · cases h
  · cases h

/-- What is appended. -/
theorem src_of {t' e' : Nat} {ty : Nat} {z : Nat} {B : Option Addr} {cap : Nat} {ds : List D} {Q : Nat → D → List Value → Prop} (hu : P.underlying t' = some (.slice e')) (hB : B = none → ds = [])
    (h : ∀ (i : Nat) (x : D), ds[i]? = some x → ∃ aa cells, B = some aa ∧ aa.spot = none ∧ cells.length = z ∧ (∀ v ∈ cells, v.oneCell' = true) ∧ Q i x cells ∧ lies w aa.block (aa.off + i * z) cells) :
    ∃ css : List (List Value), css.length = ds.length ∧ (∀ (i : Nat) (x : D), ds[i]? = some x → ∃ c, css[i]? = some c ∧ c.length = z ∧ Q i x c) ∧ Src P z t' (.slice B ds.length cap) ds.length css.flatten w := by
  cases hB' : B with
  | none =>
    have := hB hB'
    subst this
    exact ⟨[], rfl, fun i x h => by simp at h, Src.ofNil w hu cap⟩
  | some aa =>
    obtain ⟨css, l1, h1⟩ := exists_list (Q := fun i x cells => aa.spot = none ∧ cells.length = z ∧ (∀ v ∈ cells, v.oneCell' = true) ∧ Q i x cells ∧ lies w aa.block (aa.off + i * z) cells) ds (fun i x hx => by
      obtain ⟨bb, cells, k1, k2⟩ := h i x hx
      rw [hB'] at k1
      simp only [Option.some.injEq] at k1
      subst k1
      exact ⟨cells, k2⟩)
    have each : ∀ (i : Nat) (c : List Value), css[i]? = some c → aa.spot = none ∧ c.length = z ∧ (∀ v ∈ c, v.oneCell' = true) ∧ lies w aa.block (aa.off + i * z) c := by
      intro i c hc
      have hi : i < ds.length := by rw [← l1]; exact (List.getElem?_eq_some_iff.mp hc).1
      obtain ⟨c', k1, k2, k3, k4, _, k6⟩ := h1 i ds[i] (List.getElem?_eq_getElem hi)
      rw [hc] at k1
      simp only [Option.some.injEq] at k1
      subst k1
      exact ⟨k2, k3, k4, k6⟩
    have lens : ∀ c ∈ css, c.length = z := fun c hc => by
      obtain ⟨i, hi, rfl⟩ := List.mem_iff_getElem.mp hc
      exact (each i _ (List.getElem?_eq_getElem hi)).2.1
    refine ⟨css, l1, fun i x hx => ?_, ?_⟩
    · obtain ⟨c, k1, k2, k3, _, k5, _⟩ := h1 i x hx
      exact ⟨c, k1, k3, k5⟩
    · by_cases h0 : css = []
      · subst h0
        have : ds = [] := List.length_eq_zero_iff.mp l1.symm
        subst this
        exact Src.ofSlice w hu aa 0 cap [] (by simp) (fun j u h => by simp at h) (fun u h => by simp at h)
      · have hsp : aa.spot = none := by
          cases css with
          | nil => exact absurd rfl h0
          | cons c r => exact (each 0 c rfl).1
        refine Src.ofSlice w hu aa ds.length cap css.flatten (by rw [flat_len css lens, l1]) (fun j u hu' => ?_) (fun u hu' => ?_)
        · rw [add_spot hsp]
          exact flat_lies css aa.off lens (fun i c hc => (each i c hc).2.2.2) j u hu'
        · obtain ⟨c, hc, huc⟩ := List.mem_flatten.mp hu'
          obtain ⟨i, hi, rfl⟩ := List.mem_iff_getElem.mp hc
          exact (each i _ (List.getElem?_eq_getElem hi)).2.2.1 u huc

/-- Elements that are only read. -/
theorem look_elems {S X : Nat → Prop} {ob : Bool} {τ : Ty} {d : D} {cs : List Value} (ho : (ob && τ.hasOwn) = false) (h : look w S X (.sl ob τ) d cs) :
    ∃ B cap, cs = [.slice B d.toL.length cap] ∧ (B = none → d.toL = []) ∧ ∀ (i : Nat) (x : D), d.toL[i]? = some x → ∃ aa cells, B = some aa ∧ aa.spot = none ∧ cells.length = τ.size ∧ rd w S τ x cells ∧ lies w aa.block (aa.off + i * τ.size) cells := by
  cases ob with
  | false =>
    obtain ⟨B, cap, rfl, _, hn, hl, hr⟩ := h
    refine ⟨B, cap, rfl, fun hB => List.length_eq_zero_iff.mp (by have := hn hB; omega), fun i x hx => ?_⟩
    obtain ⟨aa, cells, k1, k2, _, k4, k5, k6⟩ := hr i x hx
    exact ⟨aa, cells, k1, k2, k4, k5, k6⟩
  | true =>
    simp only [Bool.true_and] at ho
    obtain ⟨B, cap, rfl, _, hn, hl, hr⟩ := h
    refine ⟨B, cap, rfl, fun hB => List.length_eq_zero_iff.mp (by have := hn hB; omega), fun i x hx => ?_⟩
    obtain ⟨aa, cells, k1, k2, _, k4, k5, k6⟩ := hr i x hx
    exact ⟨aa, cells, k1, k2, k4, rd_look _ _ _ ho k5, k6⟩

theorem mem_frz : ∀ t : Ty, t.frz.mem = t.mem
  | .pair a b => by simp [Ty.frz, Ty.mem, mem_frz a, mem_frz b]
  | .sl o e => by simpa [Ty.frz, Ty.mem] using mem_frz e
  | .bx o e => by simpa [Ty.frz, Ty.mem] using mem_frz e
  | .int _ | .bool | .str | .unit | .clo .. | .tnil | .tcons .. | .gone | .hole | .iter => rfl

theorem rd_len {S : Nat → Prop} {t : Ty} {d : D} {cs : List Value} (hm : t.mem = true) (h : rd w S t d cs) : cs.length = t.size ∧ ∀ v ∈ cs, v.oneCell' = true := by
  have := rep_len (O := fun _ => False) (t := t.frz) (by rw [mem_frz]; exact hm) (rep_of_rd _ _ _ _ (hasOwn_frz t) (rd_frz _ _ _ h))
  rwa [size_frz] at this

/-- append, where what is appended is only read: the elements are frozen. -/
theorem append_read {ts tx : Nat} {e0 bytes e1 by1 : Nat} {τ0 τ1 τ τs : Ty} {s x : Operand} {d d2 : D} {ob : Bool} {cs cs2 : List Value} {ats : Array TypeId} {args : Array Operand} (hT : TOk P T) (ht : T ts = .slice e0 bytes τ0) (htx : T tx = .slice e1 by1 τ1)
    (R : Rel C F ow a w) (hsz : τ.size = τ0.size) (hm : τ.mem = true) (hs : a.eval s = mkV (.sl true τ) cs) (hr : rep w (Stb C ow w) (.sl true τ) (fun b => ow b = some C.n) d cs)
    (hx : a.eval x = mkV (.sl ob τs) cs2) (hl : ∃ X, look w (Stb C ow w) X (.sl ob τs) d2 cs2) (hno : (ob && τs.hasOwn) = false) (hfr : τs.frz = τ.frz)
    (ho : o.op = .call { callee := .builtin .append, args, argTypes := ats }) (ha : args.toList = [s, x]) (hat : ats.toList = [ts, tx])
    (hv : (d.toL.length + d2.toL.length) * bytes ≤ 140737488355328 ∧ d.toL.length + d2.toL.length ≤ 140737488355328) :
    OpOk P C o a w F (.val (.sl true τ.frz) (.l (d.toL ++ d2.toL) (d.toZ && d2.toL.isEmpty))) := by
  have ha' : args = #[s, x] := by apply Array.ext'; simpa using ha
  have hat' : ats = #[ts, tx] := by apply Array.ext'; simpa using hat
  subst ha' hat'
  have h1 := hT ts
  rw [ht] at h1
  obtain ⟨_, j, _, _, hu, _, hj, hjs, hjb, hpz, hz, _⟩ := h1
  have h2 := hT tx
  rw [htx] at h2
  obtain ⟨_, _, _, _, hux, _⟩ := h2
  obtain ⟨B, cap, css, f, rfl, l1, k1, k2⟩ := rows_of_rep hr
  obtain ⟨X, hl⟩ := hl
  obtain ⟨B2, cap2, rfl, hB2, k3⟩ := look_elems hno hl
  obtain ⟨ow1, R1, g1, g2⟩ := R.releaseBut (Top B)
  have hzs : (mkV τ0 τ0.zeros).cells.size = τ.frz.size := by
    obtain ⟨zr, zl⟩ := zeros_rep (w := w) (S := Stb C ow w) (O := fun b => ow b = some C.n) τ0 hpz
    have hm0 : τ0.mem = true := by assumption
    obtain ⟨q1, q2⟩ := rep_len hm0 zr
    rw [mkV_cells hm0 q1 q2, size_frz, hsz]
    simpa using zl
  have hss : τs.size = τ.frz.size := by rw [← size_frz τs, hfr]
  obtain ⟨css2, m1, m2, m3⟩ := src_of (P := P) (w := w) (ty := 0) (cap := cap2) (z := τs.size) (Q := fun i x c => rd w (Stb C ow w) τs x c) hux hB2 (fun i x hx => by
    obtain ⟨aa, cells, p1, p2, p3, p4, p5⟩ := k3 i x hx
    have hms : τs.mem = true := by rw [← mem_frz, hfr, mem_frz]; exact hm
    exact ⟨aa, cells, p1, p2, p3, (rd_len hms p4).2, p4, p5⟩)
  have happ := AppRuns.ofSrc (P := P) (w := w) (ty := o.type) hu hj hz B d.toL.length cap (.slice B2 d2.toL.length cap2) d2.toL.length css2.flatten (by rw [hjs, ← hsz, ← size_frz τ, ← hss]; exact m3)
  rw [hjs, hjb] at happ
  obtain ⟨v, w', hrun, hleft⟩ := append_left (P := P) (C := C) (F := F) (a := a) (τ := τ.frz) (O1 := fun _ => False) (O2 := fun _ => False) (f1 := f) (f2 := fun _ => 0) (z1 := d.toZ) (ds1 := d.toL) (ds2 := d2.toL) (css1 := css) (css2 := css2) (cap := cap) (B := B) R1 hzs l1 m1
    (fun b h => h.elim) (fun b h => h.elim)
    (fun i x hx => by
      obtain ⟨c, n1, n2, n3⟩ := k1 i x hx
      exact ⟨c, n1, by rw [size_frz]; exact n2, rep_frz (fun b hb => g2 b (.inl hb)) (fun b hb => g2 b (.inr ⟨hb.1.1, hb.1.2⟩)) n3⟩)
    (fun i x hx => by
      obtain ⟨c, n1, n2, n3⟩ := m2 i x hx
      exact ⟨c, n1, by rw [← hss]; exact n2, rep_of_rd _ _ _ _ (hasOwn_frz τ) (rd_mono (fun b hb => ⟨g2 b (.inl hb), rfl⟩) _ _ _ (by rw [← hfr]; exact rd_frz _ _ _ n3))⟩)
    (by
      rcases k2 with ⟨rfl, q1, rfl, q2⟩ | ⟨g, q, c, te, rfl, q1, q2, q3, q4, q5, q6⟩
      · exact .inl ⟨rfl, q1, rfl, q2⟩
      · exact .inr ⟨g, q, c, te, rfl, q1, g1 g q2 ⟨q, rfl⟩, fun h => h, fun h => h, q3, by rw [size_frz]; exact q4, q5, q6⟩)
    (by rw [size_frz, hsz]; exact happ) hv.1 hv.2
  refine ⟨v, w', ?_, hleft⟩
  simp [execOp, ho, resolve, invoke, builtin, hs, hx, mkV, hrun]


/-- append, where what is appended is taken. -/
theorem append_take {ts tx : Nat} {e0 bytes e1 by1 : Nat} {τ0 τ1 τ : Ty} {s x : Operand} {d d2 : D} {cs : List Value} {ats : Array TypeId} {args : Array Operand} (hT : TOk P T) (hA : A.prot = C.prot) (ht : T ts = .slice e0 bytes τ0) (htx : T tx = .slice e1 by1 τ1)
    (R : Rel C F ow a w) (hsz : τ.size = τ0.size) (hm : τ.mem = true) (hs : a.eval s = mkV (.sl true τ) cs) (hr : rep w (Stb C ow w) (.sl true τ) (fun b => ow b = some C.n) d cs)
    (hab : absorb T A tx F x = some (F1, .sl true τ, d2))
    (ho : o.op = .call { callee := .builtin .append, args, argTypes := ats }) (ha : args.toList = [s, x]) (hat : ats.toList = [ts, tx])
    (hv : (d.toL.length + d2.toL.length) * bytes ≤ 140737488355328 ∧ d.toL.length + d2.toL.length ≤ 140737488355328) :
    OpOk P C o a w F1 (.val (.sl true τ) (.l (d.toL ++ d2.toL) (d.toZ && d2.toL.isEmpty))) := by
  have ha' : args = #[s, x] := by apply Array.ext'; simpa using ha
  have hat' : ats = #[ts, tx] := by apply Array.ext'; simpa using hat
  subst ha' hat'
  have h1 := hT ts
  rw [ht] at h1
  obtain ⟨_, j, _, _, hu, _, hj, hjs, hjb, hpz, hz, hm0⟩ := h1
  have h2 := hT tx
  rw [htx] at h2
  obtain ⟨_, _, _, _, hux, _⟩ := h2
  obtain ⟨_, ow1, cs2, R1, g1, g2, hx, hr2⟩ := absorb_ok R hA hab
  obtain ⟨B, cap, css, f, rfl, l1, k1, k2⟩ := rows_of_rep hr
  obtain ⟨B2, cap2, css2, f2, rfl, l2, k3, k4⟩ := rows_of_rep hr2
  have hzs : (mkV τ0 τ0.zeros).cells.size = τ.size := by
    obtain ⟨zr, zl⟩ := zeros_rep (w := w) (S := Stb C ow w) (O := fun b => ow b = some C.n) τ0 hpz
    obtain ⟨q1, q2⟩ := rep_len hm0 zr
    rw [mkV_cells hm0 q1 q2, hsz]
    simpa using zl
  have lens : ∀ c ∈ css2, c.length = τ.size := fun c hc => by
    obtain ⟨i, hi, rfl⟩ := List.mem_iff_getElem.mp hc
    obtain ⟨c', p1, p2, _⟩ := k3 i d2.toL[i] (by simp [← l2, hi])
    rw [List.getElem?_eq_getElem hi] at p1
    simp only [Option.some.injEq] at p1
    rw [p1]; exact p2
  have hsrc : Src P τ.size tx (.slice B2 d2.toL.length cap2) d2.toL.length css2.flatten w := by
    rcases k4 with ⟨rfl, q1, rfl, q2⟩ | ⟨g, q, c, te, rfl, q1, q2, q3, q4, q5, q6⟩
    · rw [q1] at l2 ⊢
      have : css2 = [] := List.length_eq_zero_iff.mp l2
      subst this
      exact Src.ofNil w hux 0
    · refine Src.ofSlice w hux ⟨g, q, none⟩ d2.toL.length cap2 css2.flatten (by rw [flat_len css2 lens, l2]) (fun j u hu' => by rw [add_plain]; exact q6 j u hu') (fun u hu' => ?_)
      obtain ⟨c', hc', huc⟩ := List.mem_flatten.mp hu'
      obtain ⟨i, hi, rfl⟩ := List.mem_iff_getElem.mp hc'
      obtain ⟨c'', p1, _, p3⟩ := k3 i d2.toL[i] (by simp [← l2, hi])
      rw [List.getElem?_eq_getElem hi] at p1
      simp only [Option.some.injEq] at p1
      rw [p1] at huc
      exact (rep_len hm p3).2 u huc
  have happ := AppRuns.ofSrc (P := P) (w := w) (ty := o.type) hu hj hz B d.toL.length cap (.slice B2 d2.toL.length cap2) d2.toL.length css2.flatten (by rw [hjs, ← hsz]; exact hsrc)
  rw [hjs, hjb, ← hsz] at happ
  obtain ⟨v, w', hrun, hleft⟩ := append_left (P := P) (C := C) (F := F1) (a := a) (τ := τ) (O1 := fun b => ow b = some C.n ∧ ¬ Top B b) (O2 := fun b => (ow1 b = some C.n ∧ ¬ ow b = some C.n) ∧ ¬ Top B2 b) (f1 := f) (f2 := f2) (z1 := d.toZ) (ds1 := d.toL) (ds2 := d2.toL) (css1 := css) (css2 := css2) (cap := cap) (B := B) R1 hzs l1 l2
    (fun b h => ⟨g1 b h.1, fun h' => h'.1.2 h.1⟩) (fun b h => h.1.1)
    (fun i x hx => by
      obtain ⟨c, n1, n2, n3⟩ := k1 i x hx
      exact ⟨c, n1, n2, rep_mono (fun b hb => ⟨g2 b hb, rfl⟩) _ _ _ _ _ (fun b hb => ⟨hb, rfl⟩) n3⟩)
    (fun i x hx => by
      obtain ⟨c, n1, n2, n3⟩ := k3 i x hx
      exact ⟨c, n1, n2, n3⟩)
    (by
      rcases k2 with ⟨rfl, q1, rfl, q2⟩ | ⟨g, q, c, te, rfl, q1, q2, q3, q4, q5, q6⟩
      · exact .inl ⟨rfl, q1, rfl, q2⟩
      · exact .inr ⟨g, q, c, te, rfl, q1, g1 g q2, fun h => h.2 ⟨q, rfl⟩, fun h => h.1.2 q2, q3, q4, q5, q6⟩)
    happ hv.1 hv.2
  refine ⟨v, w', ?_, hleft⟩
  simp [execOp, ho, resolve, invoke, builtin, hs, hx, mkV, hrun]

/-- append of zeros. -/
theorem AppRuns.ofZeros {t tx ty e0 : Nat} {j : TypeInfo} {zv : Value} (hu : P.underlying t = some (.slice e0)) (hux : P.underlying tx = some (.int .i64)) (hj : P.info? e0 = some j) (hz : j.zero = some zv) (hzs : zv.cells.size = j.size) (hpos : 0 < j.size)
    (hone : ∀ v ∈ zv.cells.toList, v.oneCell' = true) (B : Option Addr) (n1 cap : Nat) (l : Int) (h0 : 0 ≤ l) (hb : l.toNat * j.bytes ≤ 140737488355328) (hmax : l.toNat ≤ 140737488355328) :
    AppRuns P (Builtin.append_ #[t, tx] ty #[.slice B n1 cap, .int .i64 l]) w B n1 cap l.toNat j.size j.bytes e0 zv (Builtin.zeroCells zv.cells l.toNat).toList := by
  have hw : IntKind.i64.wrap l = l := by unfold IntKind.wrap IntKind.bits IntKind.signed; simp; omega
  have c1 : ¬ l < 0 := by omega
  have c2 : ¬ (281474976710656 < l * (j.bytes : Int)) := by
    have : l * (j.bytes : Int) = ((l.toNat * j.bytes : Nat) : Int) := by rw [Int.natCast_mul, Int.toNat_of_nonneg h0]
    omega
  have hzero : l.toNat * j.size = 0 → Builtin.zeroCells zv.cells l.toNat = #[] := fun h => by
    apply Array.eq_empty_of_size_eq_zero
    rw [size_zeroCells, hzs]; exact h
  have hpure : ∀ w' : World, (if l.toNat * j.size = 0 then pure #[] else do pure (Builtin.zeroCells (← zeroValue e0).cells l.toNat) : Sem (Array Value)).run P w' = .ok (Builtin.zeroCells zv.cells l.toNat) w' := by
    intro w'
    by_cases h : l.toNat * j.size = 0
    · rw [if_pos h, hzero h]; rfl
    · rw [if_neg h]; simp [zeroValue, typeInfo, hj, hz]
  constructor
  · intro g q hB h1 h2 h3
    subst hB
    have hst := run_storeCells_cells (P := P) g (q + n1 * j.size) (Builtin.zeroCells zv.cells l.toNat).toList 0 w (by simpa using h2) (by simpa using h3) (fun v hv => by
      unfold Builtin.zeroCells at hv
      simp only [Array.toList_map, List.mem_map] at hv
      obtain ⟨k, _, rfl⟩ := hv
      have hlt : k % zv.cells.size < zv.cells.size := Nat.mod_lt _ (by omega)
      rw [getElem!_pos zv.cells (k % zv.cells.size) hlt]
      exact hone _ (by simp))
    simp only [Nat.add_zero] at hst
    by_cases h : l.toNat * j.size = 0
    · rw [hzero h] at hst ⊢
      simp only [Builtin.append_]
      simp [run_underlying hu, run_underlying hux, sizeOf, typeInfo, hj, asInt, asIntOf, hw, c1, c2, h1, Addr.add_lit, h, storeCells, World.setCells]
    · simp only [Builtin.append_]
      simp [run_underlying hu, run_underlying hux, sizeOf, typeInfo, zeroValue, hj, hz, asInt, asIntOf, hw, c1, c2, h1, Addr.add_lit, h, hst]
  · intro hB h1 h2 h3
    subst hB h1 h3
    have hl0 : l = 0 := by omega
    subst hl0
    simp [Builtin.append_, run_underlying hu, run_underlying hux, sizeOf, typeInfo, hj, asInt, asIntOf, hw]
  · intro olds hold hlt h63 hfit
    have c3 : ¬ (n1 + l.toNat ≤ cap) := by omega
    have c4 : ¬ (9223372036854775807 < (n1 : Int) + (l.toNat : Int)) := by omega
    have c6 : ¬ (9223372036854775807 < (n1 : Int) + max l 0) := by omega
    have c5 : ¬ (281474976710656 < Builtin.nextslicecap (n1 + l.toNat) cap * j.bytes) := by omega
    by_cases h : l.toNat * j.size = 0
    · rw [hzero h]
      simp only [Builtin.append_]
      simp [run_underlying hu, run_underlying hux, sizeOf, typeInfo, zeroValue, hj, hz, asInt, asIntOf, hw, c1, c2, c3, c4, c5, c6, Question.forced, newRow, grownCap, h, hold]
    · simp only [Builtin.append_]
      simp [run_underlying hu, run_underlying hux, sizeOf, typeInfo, zeroValue, hj, hz, asInt, asIntOf, hw, c1, c2, c3, c4, c5, c6, Question.forced, newRow, grownCap, h, hold]
      congr 2
      apply Array.ext'
      simp [List.append_assoc]


/-- append of zeros. -/
theorem append_zeros {ts tx : Nat} {e0 bytes : Nat} {τ0 : Ty} {s x : Operand} {d : D} {l : Int} {cs : List Value} {ats : Array TypeId} {args : Array Operand} (hT : TOk P T) (ht : T ts = .slice e0 bytes τ0) (htx : T tx = .base (.int .i64)) (hpos : 0 < τ0.size)
    (R : Rel C F ow a w) (hs : a.eval s = mkV (.sl true τ0) cs) (hr : rep w (Stb C ow w) (.sl true τ0) (fun b => ow b = some C.n) d cs)
    (hx : a.eval x = .int .i64 l) (ho : o.op = .call { callee := .builtin .append, args, argTypes := ats }) (ha : args.toList = [s, x]) (hat : ats.toList = [ts, tx])
    (hv : 0 ≤ l ∧ (d.toL.length + l.toNat) * bytes ≤ 140737488355328 ∧ d.toL.length + l.toNat ≤ 140737488355328) :
    OpOk P C o a w F (.val (.sl true τ0) (.l (d.toL ++ List.replicate l.toNat τ0.zero) (d.toZ && decide (l.toNat = 0)))) := by
  have ha' : args = #[s, x] := by apply Array.ext'; simpa using ha
  have hat' : ats = #[ts, tx] := by apply Array.ext'; simpa using hat
  subst ha' hat'
  have h1 := hT ts
  rw [ht] at h1
  obtain ⟨_, j, _, _, hu, _, hj, hjs, hjb, hpz, hz, hm0⟩ := h1
  have h2 := hT tx
  rw [htx] at h2
  obtain ⟨_, _, _, _, _, hux⟩ := h2
  obtain ⟨B, cap, css, f, rfl, l1, k1, k2⟩ := rows_of_rep hr
  obtain ⟨zr, zl⟩ := zeros_rep (w := w) (S := Stb C ow w) (O := fun b => False ∧ (fun _ => 0) b = 0) τ0 hpz
  obtain ⟨q1, q2⟩ := rep_len hm0 zr
  have hzc := mkV_cells hm0 q1 q2
  have hzs : (mkV τ0 τ0.zeros).cells.size = τ0.size := by rw [hzc]; simpa using zl
  have happ := AppRuns.ofZeros (P := P) (w := w) (ty := o.type) hu hux hj hz (by rw [hzs, hjs]) (by rw [hjs]; exact hpos) (fun v hv => by rw [hzc] at hv; exact q2 v (by simpa using hv)) B d.toL.length cap l hv.1 (by
    rw [hjb]
    have : l.toNat * bytes ≤ (d.toL.length + l.toNat) * bytes := Nat.mul_le_mul_right _ (by omega)
    omega) (by omega)
  have hzf : (Builtin.zeroCells (mkV τ0 τ0.zeros).cells l.toNat).toList = (List.replicate l.toNat τ0.zeros).flatten := by
    rw [hzc]
    have := flatten_replicate (z := τ0.zeros) l.toNat
    rw [← this]
    simp [Builtin.zeroCells]
  rw [hzf, hjs, hjb] at happ
  obtain ⟨v, w', hrun, hleft⟩ := append_left (P := P) (C := C) (F := F) (a := a) (τ := τ0) (O1 := fun b => ow b = some C.n ∧ ¬ Top B b) (O2 := fun _ => False) (f1 := f) (f2 := fun _ => 0) (z1 := d.toZ) (ds1 := d.toL) (ds2 := List.replicate l.toNat τ0.zero) (css1 := css) (css2 := List.replicate l.toNat τ0.zeros) (cap := cap) (B := B) R hzs l1 (by simp)
    (fun b h => ⟨h.1, fun h' => h'⟩) (fun b h => h.elim)
    (fun i x hx => by
      obtain ⟨c, n1, n2, n3⟩ := k1 i x hx
      exact ⟨c, n1, n2, n3⟩)
    (fun i x hx => by
      rw [List.getElem?_replicate] at hx
      split at hx
      · rename_i hlt
        simp only [Option.some.injEq] at hx
        subst hx
        exact ⟨τ0.zeros, by rw [List.getElem?_replicate, if_pos hlt], zl, (zeros_rep τ0 hpz).1⟩
      · cases hx)
    (by
      rcases k2 with ⟨rfl, q1, rfl, q2⟩ | ⟨g, q, c, te, rfl, q1, q2, q3, q4, q5, q6⟩
      · exact .inl ⟨rfl, q1, rfl, q2⟩
      · exact .inr ⟨g, q, c, te, rfl, q1, q2, fun h => h.2 ⟨q, rfl⟩, fun h => h, q3, q4, q5, q6⟩)
    (by simpa using happ) (by simpa using hv.2.1) (by simpa using hv.2.2)
  refine ⟨v, w', by simp [execOp, ho, resolve, invoke, builtin, hs, hx, mkV, hrun], ?_⟩
  have he : (List.replicate l.toNat τ0.zero).isEmpty = decide (l.toNat = 0) := by
    rw [Bool.eq_iff_iff]; simp
  rw [he] at hleft
  exact hleft

theorem appendE_ok {ts tx : Nat} {s x : Operand} {ats : Array TypeId} {args : Array Operand} (hT : TOk P T) (hA : A.prot = C.prot) (R : Rel C F ow a w)
    (ho : o.op = .call { callee := .builtin .append, args, argTypes := ats }) (ha : args.toList = [s, x]) (hat : ats.toList = [ts, tx]) (h : appendE T A ts tx s x F = some (F1, e, vc)) (hv : vc) : OpOk P C o a w F1 e := by
  unfold appendE at h
  split at h
  · rename_i e0 bytes τ0 ht
    rw [Option.bind_eq_some_iff] at h
    obtain ⟨⟨F2, τ, d⟩, hos, h⟩ := h
    replace h := bind_guard h; obtain ⟨hk, h⟩ := h
    simp only [Bool.and_eq_true] at hk
    obtain ⟨hsz, hm⟩ := hk
    have hsz := Nat.eq_of_beq_eq_true hsz
    obtain ⟨ow1, cs, R1, _, hs, hr⟩ := ownSlice_ok R hA hos
    simp only at h hsz hm
    split at h
    · rename_i htx
      rw [Option.bind_eq_some_iff] at h
      obtain ⟨⟨tn, dn⟩, hn, h⟩ := h
      simp only at h
      split at h
      · replace h := bind_guard h; obtain ⟨hk, h⟩ := h
        simp only [Bool.and_eq_true, decide_eq_true_eq] at hk
        obtain ⟨rfl, hpos⟩ := hk
        simp only [resIf, Option.some.injEq, Prod.mk.injEq] at h
        obtain ⟨rfl, rfl, rfl⟩ := h
        exact append_zeros hT ht htx hpos R1 hs hr (view_int R1 hn) ho ha hat hv
      · cases h
    · rename_i e1 by1 τ1 htx
      rw [Option.bind_eq_some_iff] at h
      obtain ⟨e2, he, h⟩ := h
      split at h
      · rename_i ob τs d2
        split at h
        · split at h
          · rw [Option.bind_eq_some_iff] at h
            obtain ⟨⟨F3, t3, d3⟩, hab, h⟩ := h
            replace h := bind_guard h; obtain ⟨hk, h⟩ := h
            have hk := of_decide_eq_true hk
            simp only at hk
            subst hk
            simp only [appRes, resIf, Option.some.injEq, Prod.mk.injEq] at h
            obtain ⟨rfl, rfl, rfl⟩ := h
            exact append_take hT hA ht htx R1 hsz hm hs hr hab ho ha hat (by simpa using hv)
          · split at h
            · rename_i q
              rw [Option.bind_eq_some_iff] at h
              obtain ⟨F3, hfz, h⟩ := h
              rw [Option.bind_eq_some_iff] at h
              obtain ⟨⟨tv, dv⟩, hview, h⟩ := h
              simp only at h
              split at h
              · rename_i τ'
                replace h := bind_guard h; obtain ⟨hk, h⟩ := h
                have hk := of_decide_eq_true hk
                simp only [appRes, resIf, Option.some.injEq, Prod.mk.injEq] at h
                obtain ⟨rfl, rfl, rfl⟩ := h
                obtain ⟨R2, _, hst⟩ := R1.freeze hA hfz
                have hr2 := rep_mono (w' := w) (S' := Stb C (give ow1 q none) w) (fun b hb => ⟨hst b (.inl hb), rfl⟩) (.sl true τ) _ (fun b => give ow1 q none b = some C.n) d cs (fun b hb => ⟨give_ne hb (by obtain ⟨_, _, hF, _, _⟩ := freeze_some hfz; have := R1.lt q _ hF; omega), rfl⟩) hr
                obtain ⟨cs2, hx, hl⟩ := view_look R2 hview
                exact append_read hT ht htx R2 hsz hm hs hr2 (ob := false) hx ⟨_, hl⟩ rfl hk ho ha hat (by simpa using hv)
              · cases h
            · cases h
        · rename_i hno
          replace h := bind_guard h; obtain ⟨hk, h⟩ := h
          have hk := of_decide_eq_true hk
          simp only [appRes, resIf, Option.some.injEq, Prod.mk.injEq] at h
          obtain ⟨rfl, rfl, rfl⟩ := h
          have hview : view T tx F2 x = some (.sl ob τs, d2) := by unfold view; rw [he]
          obtain ⟨cs2, hx, hl⟩ := view_look R1 hview
          exact append_read hT ht htx R1 hsz hm hs hr hx ⟨_, hl⟩ hno hk ho ha hat (by simpa using hv)
      · rename_i τs d2 r π
        obtain ⟨q, rfl, hF⟩ := ev_pk he
        obtain ⟨cs2, hx, hl, _⟩ := R1.ents q _ hF
        split at h
        · rename_i hno
          replace h := bind_guard h; obtain ⟨hk, h⟩ := h
          have hk := of_decide_eq_true hk
          simp only [appRes, resIf, Option.some.injEq, Prod.mk.injEq] at h
          obtain ⟨rfl, rfl, rfl⟩ := h
          exact append_read hT ht htx R1 hsz hm hs hr (show a.eval (.tmp q) = mkV (.sl true τs) cs2 from hx) ⟨_, hl⟩ (by simpa using hno) hk ho ha hat (by simpa using hv)
        · rw [Option.bind_eq_some_iff] at h
          obtain ⟨F3, hfz, h⟩ := h
          replace h := bind_guard h; obtain ⟨hk, h⟩ := h
          have hk := of_decide_eq_true hk
          simp only [appRes, resIf, Option.some.injEq, Prod.mk.injEq] at h
          obtain ⟨rfl, rfl, rfl⟩ := h
          have hroot := R1.root q _ _ hF rfl
          obtain ⟨R2, _, hst⟩ := R1.freeze hA hfz
          have hr2 := rep_mono (w' := w) (S' := Stb C (give ow1 r none) w) (fun b hb => ⟨hst b (.inl hb), rfl⟩) (.sl true τ) _ (fun b => give ow1 r none b = some C.n) d cs (fun b hb => ⟨give_ne hb (by omega), rfl⟩) hr
          have hl2 : look w (Stb C (give ow1 r none) w) (fun _ => False) (.sl false τs.frz) d2 cs2 := rd_of_rep (t := (Ty.sl true τs).frz) (hasOwn_frz _) (look_frz (O' := fun _ => False) (fun b h => hst b (.inl h)) (fun b h => hst b (.inr h)) hl)
          have hff : ∀ t : Ty, t.frz.frz = t.frz := by
            intro t
            induction t with
            | pair a b ha hb => simp [Ty.frz, ha, hb]
            | tcons a b ha hb => simp [Ty.frz, ha, hb]
            | sl o e he => simp [Ty.frz, he]
            | bx o e he => simp [Ty.frz, he]
            | _ => rfl
          exact append_read hT ht htx R2 hsz hm hs hr2 (ob := false) (τs := τs.frz) (show a.eval (.tmp q) = mkV (.sl false τs.frz) cs2 from hx) ⟨_, hl2⟩ rfl (by rw [hff]; exact hk) ho ha hat (by simpa using hv)
      · cases h
    · cases h
  · cases h

end
end Go.Pi
