/- Each operation does what the generator says: memory that is made. -/
import Derived.Test.YtkcgbkijlnpoiaaPiMem
import Derived.Great.BuildSlice
import Derived.Deep.AppendSrc
namespace Go.Pi

section
variable {P : Program} {C : Ctx} {T : Nat → TI} {A : Ann} {F F1 : Fr} {ow : Nat → Option Nat} {a : Act} {w : World} {e : Ent} {vc : Prop} {o : Oper}

theorem look_len {S X : Nat → Prop} : ∀ (t : Ty) (d : D) (cs : List Value), t.mem = true → look w S X t d cs → cs.length = t.size ∧ ∀ v ∈ cs, v.oneCell' = true
  | .int _, _, _, _, h => by rw [show _ = [_] from h]; simp [Ty.size, Value.oneCell']
  | .bool, _, _, _, h => by rw [show _ = [_] from h]; simp [Ty.size, Value.oneCell']
  | .str, _, _, _, h => by rw [show _ = [_] from h]; simp [Ty.size, Value.oneCell']
  | .unit, _, _, _, h => by rw [show _ = [] from h]; simp [Ty.size]
  | .pair a b, d, cs, hm, ⟨c1, c2, e, hn, h1, h2⟩ => by
    simp only [Ty.mem, Bool.and_eq_true] at hm
    obtain ⟨k1, k2⟩ := look_len a _ _ hm.1 h1
    obtain ⟨k3, k4⟩ := look_len b _ _ hm.2 h2
    subst e
    exact ⟨by simp [Ty.size, k1, k3], fun v hv => (List.mem_append.mp hv).elim (k2 v) (k4 v)⟩
  | .sl true e, d, cs, _, ⟨A, cap, e1, _⟩ => by rw [e1]; simp [Ty.size, Value.oneCell']
  | .bx true e, d, cs, _, ⟨A, cap, e1, _⟩ => by rw [e1]; simp [Ty.size, Value.oneCell']
  | .sl false e, d, cs, _, ⟨A, cap, e1, _⟩ => by rw [e1]; simp [Ty.size, Value.oneCell']
  | .bx false e, d, cs, _, ⟨A, cap, e1, _⟩ => by rw [e1]; simp [Ty.size, Value.oneCell']
  | .clo f c, d, cs, _, ⟨A, e1, _⟩ => by rw [e1]; simp [Ty.size, Value.oneCell']
  | .tnil, _, _, h, _ => by cases h
  | .tcons .., _, _, h, _ => by cases h
  | .gone, _, _, h, _ => by cases h

theorem rep_len {S O : Nat → Prop} {t : Ty} {d : D} {cs : List Value} (hm : t.mem = true) (h : rep w S t O d cs) : cs.length = t.size ∧ ∀ v ∈ cs, v.oneCell' = true :=
  look_len t d cs hm (rep_look t O O d cs (fun _ h => h) h)

theorem cells_one {v : Value} (h : v.oneCell' = true) : v.cells = #[v] := by cases v <;> simp_all [Value.oneCell', Value.cells]

theorem mkV_cells {t : Ty} {cs : List Value} (hm : t.mem = true) (hn : cs.length = t.size) (h1 : ∀ v ∈ cs, v.oneCell' = true) : (mkV t cs).cells = cs.toArray := by
  cases ha : t.isAgg with
  | true =>
    have : mkV t cs = .agg cs.toArray := by cases t <;> simp_all [Ty.isAgg, mkV]
    rw [this]; rfl
  | false =>
    have hs : t.size = 1 := by cases t <;> simp_all [Ty.isAgg, Ty.size, Ty.mem]
    rw [hs] at hn
    obtain ⟨v, rfl⟩ := List.length_eq_one_iff.mp hn
    rw [mkV_one ha hs, cells_one (h1 v (by simp))]

/-- What a value that is taken leaves: as 'Left', but the blocks that slot n has got are told apart from those that it had. -/
theorem absorb_ok {x : Operand} {ty : Nat} {t : Ty} {d : D} (R : Rel C F ow a w) (hA : A.prot = C.prot) (h : absorb T A ty F x = some (F1, t, d)) :
    t.mem = true ∧ ∃ ow1 cs, Rel C F1 ow1 a w ∧ (∀ b, ow b = some C.n → ow1 b = some C.n) ∧ (∀ b, Stb C ow w b → Stb C ow1 w b) ∧ a.eval x = mkV t cs ∧
      rep w (Stb C ow1 w) t (fun b => ow1 b = some C.n ∧ ¬ ow b = some C.n) d cs := by
  unfold absorb at h
  rw [Option.bind_eq_some_iff] at h
  obtain ⟨q, hq, h⟩ := h
  replace h := bind_guard h; obtain ⟨hm, h⟩ := h
  simp only [Option.some.injEq] at h
  subst h
  refine ⟨hm, ?_⟩
  unfold absorb0 at hq
  rw [Option.bind_eq_some_iff] at hq
  obtain ⟨e0, he, hq⟩ := hq
  split at hq
  · rename_i t' d'
    split at hq
    · rename_i ho
      simp only [Option.some.injEq, Prod.mk.injEq] at hq
      obtain ⟨rfl, rfl, rfl⟩ := hq
      have hview : view T ty F x = some (t', d') := by unfold view; rw [he]
      obtain ⟨cs, h1, h2⟩ := view_look R hview
      exact ⟨ow, cs, R, fun _ h => h, fun _ h => h, h1, rep_of_rd _ _ _ _ ho (rd_look _ _ _ ho h2)⟩
    · split at hq
      · rename_i s
        obtain ⟨h1, h2, h3, R', cs, h4, h5⟩ := R.take hA hq
        have hs := R.lt s _ h1
        refine ⟨_, cs, R', fun b hb => ?_, fun b hb => ⟨hb.1, hb.2.1, give_none hb.2.2⟩, h4, ?_⟩
        · exact give_ne hb (by omega)
        · obtain ⟨cs', k1, k2⟩ := R.ents s _ h1
          have : cs' = cs := by
            obtain ⟨k3, k4⟩ := rep_len hm k2
            obtain ⟨k5, k6⟩ := rep_len hm h5
            have e := k1.symm.trans h4
            have := congrArg Value.cells e
            rw [mkV_cells hm k3 k4, mkV_cells hm k5 k6] at this
            simpa using this
          subst this
          exact rep_mono (fun b hb => ⟨⟨hb.1, hb.2.1, give_none hb.2.2⟩, rfl⟩) _ _ _ _ _ (fun b hb => ⟨⟨give_eq hb, by rw [hb]; intro e; simp only [Option.some.injEq] at e; omega⟩, rfl⟩) k2
      · simp only [Option.some.injEq, Prod.mk.injEq] at hq
        obtain ⟨rfl, rfl, rfl⟩ := hq
        rename_i hnt
        cases x with
        | tmp s => exact absurd rfl (hnt s)
        | const v =>
          simp only [ev] at he
          cases hc : constEnt T ty v with
          | none => rw [hc] at he; cases he
          | some q =>
            rw [hc] at he
            simp only [Option.map_some, Option.some.injEq, Ent.val.injEq] at he
            obtain ⟨rfl, rfl⟩ := he
            obtain ⟨cs, h1, _, h2⟩ := const_look hc w (Stb C ow w) (fun b => ow b = some C.n ∧ ¬ ow b = some C.n)
            exact ⟨ow, cs, R, fun _ h => h, fun _ h => h, h1, h2⟩
        | func f =>
          simp only [ev, Option.some.injEq, Ent.val.injEq] at he
          obtain ⟨rfl, rfl⟩ := he
          exact ⟨ow, [.func (.func f) #[] #[]], R, fun _ h => h, fun _ h => h, rfl, [], rfl, rfl⟩
        | global g => cases he
  · rename_i t' d' r π
    simp only [Option.map_eq_some_iff] at hq
    obtain ⟨F', hF', hq⟩ := hq
    simp only [Prod.mk.injEq] at hq
    obtain ⟨rfl, rfl, rfl⟩ := hq
    obtain ⟨s, rfl, hs⟩ := ev_pk he
    obtain ⟨R', hnp, hst⟩ := R.freeze hA hF'
    have hr := R.root s _ _ hs rfl
    obtain ⟨cs, e1, h1, _⟩ := R.ents _ _ hs
    exact ⟨_, cs, R', fun b hb => give_ne hb (by omega), fun b hb => hst b (.inl hb), by rw [mkV_frz]; exact e1, look_frz (fun b h => hst b (.inl h)) (fun b h => hst b (.inr h)) h1⟩
  · cases hq
  · cases hq

/-- A row of values that were taken. -/
structure Held (C : Ctx) (ow ow1 : Nat → Option Nat) (w : World) (a : Act) (xs : List Operand) (ts : List (Ty × D)) (f : Nat → Nat) (css : List (List Value)) : Prop where
  len : css.length = xs.length ∧ ts.length = xs.length
  keep : ∀ b, ow b = some C.n → ow1 b = some C.n
  stb : ∀ b, Stb C ow w b → Stb C ow1 w b
  each : ∀ i t d, ts[i]? = some (t, d) → t.mem = true ∧ ∃ x cs, xs[i]? = some x ∧ css[i]? = some cs ∧ a.eval x = mkV t cs ∧ rep w (Stb C ow1 w) t (fun b => (ow1 b = some C.n ∧ ¬ ow b = some C.n) ∧ f b = i) d cs

theorem absorbAll_ok (hA : A.prot = C.prot) {ty : Nat} : ∀ (xs : List Operand) (F F1 : Fr) (ow : Nat → Option Nat) (ts : List (Ty × D)), Rel C F ow a w → absorbAll T A ty F xs = some (F1, ts) →
    ∃ ow1 f css, Rel C F1 ow1 a w ∧ Held C ow ow1 w a xs ts f css
  | [], F, F1, ow, ts, R, h => by
    simp only [absorbAll, Option.some.injEq, Prod.mk.injEq] at h
    obtain ⟨rfl, rfl⟩ := h
    exact ⟨ow, fun _ => 0, [], R, ⟨rfl, rfl⟩, fun _ h => h, fun _ h => h, fun i t d h => by simp at h⟩
  | x :: xs, F, F1, ow, ts, R, h => by
    simp only [absorbAll] at h
    rw [Option.bind_eq_some_iff] at h
    obtain ⟨⟨F2, t, d⟩, hx, h⟩ := h
    simp only [Option.map_eq_some_iff] at h
    obtain ⟨⟨F3, ts'⟩, hxs, h⟩ := h
    simp only [Prod.mk.injEq] at h
    obtain ⟨rfl, rfl⟩ := h
    obtain ⟨hm, ow1, cs, R1, k1, k2, e1, h1⟩ := absorb_ok R hA hx
    obtain ⟨ow2, f, css, R2, H⟩ := absorbAll_ok hA xs F2 F3 ow1 ts' R1 hxs
    refine ⟨ow2, fun b => if ow1 b = some C.n then 0 else f b + 1, cs :: css, R2, ⟨by simp [H.len.1], by simp [H.len.2]⟩, fun b hb => H.keep b (k1 b hb), fun b hb => H.stb b (k2 b hb), fun i t0 d0 hi => ?_⟩
    cases i with
    | zero =>
      simp only [List.getElem?_cons_zero, Option.some.injEq, Prod.mk.injEq] at hi
      obtain ⟨rfl, rfl⟩ := hi
      exact ⟨hm, x, cs, rfl, rfl, e1, rep_mono (fun b hb => ⟨H.stb b hb, rfl⟩) _ _ _ _ _ (fun b hb => ⟨⟨⟨H.keep b hb.1, hb.2⟩, by rw [if_pos hb.1]⟩, rfl⟩) h1⟩
    | succ i =>
      simp only [List.getElem?_cons_succ] at hi
      obtain ⟨hm', x', cs', g1, g2, g3, g4⟩ := H.each i t0 d0 hi
      refine ⟨hm', x', cs', by simpa using g1, by simpa using g2, g3, rep_mono (fun b hb => ⟨hb, rfl⟩) _ _ _ _ _ (fun b hb => ⟨⟨⟨hb.1.1, fun h => hb.1.2 (k1 b h)⟩, ?_⟩, rfl⟩) g4⟩
      rw [if_neg hb.1.2, hb.2]

/-- What slot n holds is given up. -/
theorem Rel.release (R : Rel C F ow a w) : Rel C F (give ow C.n none) a w ∧ ∀ b, Stb C ow w b ∨ ow b = some C.n → Stb C (give ow C.n none) w b := by
  have hst : ∀ b, Stb C ow w b ∨ ow b = some C.n → Stb C (give ow C.n none) w b := by
    rintro b (hb | hb)
    · exact ⟨hb.1, hb.2.1, give_none hb.2.2⟩
    · obtain ⟨h3, h4⟩ := R.own b _ hb
      exact ⟨.inr (h4.resolve_left fun h => by have := R.protlt _ h.1; omega), h3, give_eq hb⟩
  refine ⟨R.change (fun _ _ h => h) (fun b hb => ⟨hst b (.inl hb), rfl⟩) (fun q e h => ?_) rfl rfl (fun _ _ => rfl) (fun b q hb => R.own b q (give_some' hb).1) (fun _ _ _ _ => rfl) (Nat.le_refl _) rfl rfl rfl, hst⟩
  have hq := R.lt q e h
  exact ⟨rfl, fun _ _ _ b hb => ⟨give_ne hb (by omega), rfl⟩, fun r hr => ⟨rfl, fun b hb => ⟨give_ne hb (by have := R.root q e r h hr; omega), rfl⟩⟩⟩

/-- A row of values that were taken, as elements of one type. -/
theorem join_ok {xs : List Operand} {ts : List (Ty × D)} {f : Nat → Nat} {css : List (List Value)} {ow1 : Nat → Option Nat} {dflt τ : Ty} (R : Rel C F1 ow1 a w) (H : Held C ow ow1 w a xs ts f css)
    (hj : joinTy dflt ts = some τ) (hd : dflt.mem = true) : τ.mem = true ∧ ∃ ow2, Rel C F1 ow2 a w ∧ ∀ i t d, ts[i]? = some (t, d) → ∃ x cs, xs[i]? = some x ∧ css[i]? = some cs ∧ a.eval x = mkV τ cs ∧
      rep w (Stb C ow2 w) τ (fun b => ow2 b = some C.n ∧ f b = i) d cs := by
  have mem_frz : ∀ t : Ty, t.frz.mem = t.mem := by
    intro t
    induction t with
    | pair a b ha hb => simp [Ty.frz, Ty.mem, ha, hb]
    | sl o e he => simpa [Ty.frz, Ty.mem] using he
    | bx o e he => simpa [Ty.frz, Ty.mem] using he
    | _ => rfl
  cases ts with
  | nil =>
    simp only [joinTy, Option.some.injEq] at hj
    subst hj
    exact ⟨hd, ow1, R, fun i t d h => by simp at h⟩
  | cons q r =>
    obtain ⟨t, d⟩ := q
    obtain ⟨hm0, _⟩ := H.each 0 t d rfl
    simp only [joinTy] at hj
    split at hj
    · rename_i hall
      simp only [Option.some.injEq] at hj
      subst hj
      have heq : ∀ (i : Nat) (t0 : Ty) (d0 : D), ((t, d) :: r)[i]? = some (t0, d0) → t0 = t := by
        intro i t0 d0 h
        cases i with
        | zero => simp at h; exact h.1.symm
        | succ i => simp only [List.getElem?_cons_succ] at h; have := List.all_eq_true.mp hall _ (List.mem_of_getElem? h); simpa using this
      refine ⟨hm0, ow1, R, fun i t0 d0 h => ?_⟩
      obtain ⟨_, x, cs, g1, g2, g3, g4⟩ := H.each i t0 d0 h
      obtain rfl := heq i t0 d0 h
      exact ⟨x, cs, g1, g2, g3, rep_mono (fun b hb => ⟨hb, rfl⟩) _ _ _ _ _ (fun b hb => ⟨⟨hb.1.1, hb.2⟩, rfl⟩) g4⟩
    · split at hj
      · rename_i hall
        simp only [Option.some.injEq] at hj
        subst hj
        have heq : ∀ (i : Nat) (t0 : Ty) (d0 : D), ((t, d) :: r)[i]? = some (t0, d0) → t0.frz = t.frz := by
          intro i t0 d0 h
          cases i with
          | zero => simp at h; rw [h.1]
          | succ i => simp only [List.getElem?_cons_succ] at h; have := List.all_eq_true.mp hall _ (List.mem_of_getElem? h); simpa using this
        obtain ⟨R2, hst⟩ := R.release
        refine ⟨by rw [mem_frz]; exact hm0, _, R2, fun i t0 d0 h => ?_⟩
        obtain ⟨_, x, cs, g1, g2, g3, g4⟩ := H.each i t0 d0 h
        rw [← heq i t0 d0 h]
        exact ⟨x, cs, g1, g2, by rw [mkV_frz]; exact g3, rep_frz (fun b hb => hst b (.inl hb)) (fun b hb => hst b (.inr hb.1.1)) g4⟩
      · cases hj

/-- A new block, slot n's. -/
theorem alloc_thaw (w : World) (c : Array Value) (te : TypeId) (b : Addr) : (w.alloc (.cells c te (0, 0))).frozen? b = w.frozen? b := by
  unfold World.frozen? World.alloc
  simp only [Array.getElem?_push]
  by_cases h : b.block = w.heap.size
  · rw [if_pos h, h]
    simp
  · rw [if_neg h]

theorem Rel.alloc (R : Rel C F ow a w) (ob : Obj) (hob : ∀ b, (w.alloc ob).frozen? b = w.frozen? b := by intro b; exact alloc_thaw _ _ _ b) : Rel C F (fun b => if b = w.heap.size then some C.n else ow b) a (w.alloc ob) ∧ ow w.heap.size = none ∧
    (∀ b, Stb C ow w b → Stb C (fun b => if b = w.heap.size then some C.n else ow b) (w.alloc ob) b ∧ (w.alloc ob).heap[b]? = w.heap[b]?) := by
  have hno : ow w.heap.size = none := by
    cases h : ow w.heap.size with
    | none => rfl
    | some s => have := (R.own _ _ h).1; omega
  have hold : ∀ b, b < w.heap.size → (w.alloc ob).heap[b]? = w.heap[b]? := fun b hb => heap_alloc_old w ob b hb
  have hsz : (w.alloc ob).heap.size = w.heap.size + 1 := by simp
  have hst : ∀ b, Stb C ow w b → Stb C (fun b => if b = w.heap.size then some C.n else ow b) (w.alloc ob) b ∧ (w.alloc ob).heap[b]? = w.heap[b]? := fun b hb =>
    ⟨⟨hb.1, by have := hb.2.1; omega, by have := hb.2.1; show (if b = w.heap.size then some C.n else ow b) = none; rw [if_neg (by omega)]; exact hb.2.2⟩, hold b hb.2.1⟩
  have hk : ∀ b s, ow b = some s → (if b = w.heap.size then some C.n else ow b) = some s ∧ (w.alloc ob).heap[b]? = w.heap[b]? := fun b s hb => by
    have := (R.own b s hb).1
    exact ⟨by rw [if_neg (by omega)]; exact hb, hold b this⟩
  refine ⟨R.change (fun _ _ h => h) hst (fun q e h => ⟨rfl, fun _ _ _ b hb => hk b q hb, fun r _ => ⟨rfl, fun b hb => hk b r hb⟩⟩) rfl rfl (fun _ _ => rfl) (fun b s hb => ?_) (fun b hb _ _ => hold b (by have := R.grow; omega)) (by omega) rfl rfl rfl hob, hno, hst⟩
  by_cases hbs : b = w.heap.size
  · simp only [hbs, if_true, Option.some.injEq] at hb
    have := R.grow
    exact ⟨by omega, .inr (.inr (by omega))⟩
  · simp only [hbs, if_false] at hb
    obtain ⟨h1, h2⟩ := R.own b s hb
    exact ⟨by omega, h2⟩

theorem lies_new {w' : World} {g : Nat} {pre cs post : List Value} {te : TypeId} {c : Array Value} (hc : w'.heap[g]? = some (.cells c te (0, 0))) (h : c.toList = pre ++ cs ++ post) : lies w' g pre.length cs := by
  intro j v hv
  have hj : j < cs.length := (List.getElem?_eq_some_iff.mp hv).1
  have : c[pre.length + j]? = some v := by
    rw [← Array.getElem?_toList, h, List.append_assoc, List.getElem?_append_right (by omega), List.getElem?_append_left (by omega)]
    simpa using hv
  simp [World.cell?, hc, this]

/-- The i-th of some pieces of one size. -/
theorem flat_split {z : Nat} : ∀ (css : List (List Value)) (i : Nat) (cs : List Value), (∀ c ∈ css, c.length = z) → css[i]? = some cs → ∃ pre post, css.flatten = pre ++ cs ++ post ∧ pre.length = i * z
  | [], i, cs, _, h => by simp at h
  | c :: css, 0, cs, _, h => by simp at h; subst h; exact ⟨[], css.flatten, by simp, by simp⟩
  | c :: css, i + 1, cs, hz, h => by
    simp only [List.getElem?_cons_succ] at h
    obtain ⟨pre, post, h1, h2⟩ := flat_split css i cs (fun c hc => hz c (List.mem_cons_of_mem _ hc)) h
    exact ⟨c ++ pre, post, by simp [h1], by rw [List.length_append, hz c (by simp), h2, Nat.succ_mul]; omega⟩

theorem flat_len {z : Nat} : ∀ (css : List (List Value)), (∀ c ∈ css, c.length = z) → css.flatten.length = css.length * z
  | [], _ => by simp
  | c :: css, h => by
    rw [List.flatten_cons, List.length_append, flat_len css (fun c hc => h c (List.mem_cons_of_mem _ hc)), h c (by simp), List.length_cons, Nat.succ_mul]; omega

theorem map_snd_get {ts : List (Ty × D)} {i : Nat} {x : D} (h : (ts.map (·.2))[i]? = some x) : ∃ t, ts[i]? = some (t, x) := by
  rw [List.getElem?_map] at h
  cases hq : ts[i]? with
  | none => rw [hq] at h; cases h
  | some q => rw [hq] at h; obtain ⟨t, d⟩ := q; simp at h; subst h; exact ⟨t, rfl⟩

theorem inOrder_zip : ∀ (ps : List (Nat × Operand)) (n : Nat), inOrder n ps = true → ps.map (fun p => (p.1, a.eval p.2)) = ((ps.map fun p => a.eval p.2).zipIdx n).map fun x => (x.2, x.1)
  | [], _, _ => rfl
  | (i, x) :: r, n, h => by
    simp only [inOrder, Bool.and_eq_true] at h
    obtain rfl := Nat.eq_of_beq_eq_true h.1
    simp only [List.map_cons, List.zipIdx_cons]
    rw [inOrder_zip r _ h.2]

theorem flat_cells {τ : Ty} : ∀ (css : List (List Value)), (∀ c ∈ css, (mkV τ c).cells = c.toArray) → (css.map (mkV τ)).flatMap (fun v => v.cells.toList) = css.flatten
  | [], _ => rfl
  | c :: css, h => by
    simp only [List.map_cons, List.flatMap_cons, List.flatten_cons]
    rw [h c (by simp), flat_cells css fun c hc => h c (by simp [hc])]

/-- A new row of elements, slot n's. -/
theorem left_row {ow2 : Nat → Option Nat} {τ : Ty} {f : Nat → Nat} {css : List (List Value)} {ds : List D} {c : Array Value} {te cap : Nat} {rest : List Value} (R2 : Rel C F1 ow2 a w)
    (hlen : css.length = ds.length) (hcss : ∀ c ∈ css, c.length = τ.size)
    (hall : ∀ (i : Nat) (d : D), ds[i]? = some d → ∃ cs, css[i]? = some cs ∧ rep w (Stb C ow2 w) τ (fun b => ow2 b = some C.n ∧ f b = i) d cs)
    (hc : c.toList = css.flatten ++ rest) (hcap : cap * τ.size ≤ c.size) (hle : ds.length ≤ cap) :
    Left C F1 (.val (.sl true τ) (.l ds false)) (.slice (some ⟨w.heap.size, 0, none⟩) ds.length cap) a (w.alloc (.cells c te)) := by
  obtain ⟨R3, hno, hst⟩ := R2.alloc (.cells c te)
  have hnew : (w.alloc (.cells c te)).heap[w.heap.size]? = some (.cells c te (0, 0)) := heap_alloc_new w _
  refine ⟨_, R3, ⟨[.slice (some ⟨w.heap.size, 0, none⟩) ds.length cap], rfl, .inr ⟨w.heap.size, 0, cap, c, te, rfl, rfl, by simp, hnew, by omega, hle, f, fun i x hx => ?_⟩⟩, fun r hr => by cases hr⟩
  obtain ⟨cs, g1, g2⟩ := hall i x hx
  refine ⟨cs, hcss cs (List.mem_of_getElem? g1), rep_mono hst _ _ _ _ _ (fun b hb => ?_) g2, ?_⟩
  · have hlt := (R2.own b _ hb.1).1
    have hne : b ≠ w.heap.size := by omega
    exact ⟨⟨⟨by simp only [hne, if_false]; exact hb.1, hne⟩, hb.2⟩, heap_alloc_old w _ b hlt⟩
  · obtain ⟨pre, post, k1, k2⟩ := flat_split css i cs hcss g1
    have := lies_new hnew (pre := pre) (cs := cs) (post := post ++ rest) (by rw [hc, k1]; simp)
    rw [k2] at this
    rwa [Nat.zero_add]

theorem buildSliceE_ok {t n : Nat} {ps : Array (Nat × Operand)} (hT : TOk P T) (hA : A.prot = C.prot) (R : Rel C F ow a w) (ho : o.op = .buildSlice t n ps)
    (h : buildSliceE T A t n ps.toList F = some (F1, e, vc)) (hv : vc) : OpOk P C o a w F1 e := by
  unfold buildSliceE at h
  split at h
  · rename_i e0 bytes τ0 ht
    have h1 := hT t
    rw [ht] at h1
    obtain ⟨_, j, _, _, hu, _, hj, hjs, _, hpz, hz, hdm⟩ := h1
    replace h := bind_guard h; obtain ⟨hk, h⟩ := h
    simp only [Bool.and_eq_true, decide_eq_true_eq] at hk
    obtain ⟨⟨⟨hk1, hk2⟩, hk3⟩, hk4⟩ := hk
    have hk2 := Nat.eq_of_beq_eq_true hk2
    have hk3 : n * τ0.size ≤ 1000 := Nat.le_of_ble_eq_true hk3
    rw [Option.bind_eq_some_iff] at h
    obtain ⟨⟨F2, ts⟩, hab, h⟩ := h
    rw [Option.bind_eq_some_iff] at h
    obtain ⟨τ, hjt, h⟩ := h
    replace h := bind_guard h; obtain ⟨hk5, h⟩ := h
    have hk5 := Nat.eq_of_beq_eq_true hk5
    simp only [res, Option.some.injEq, Prod.mk.injEq] at h
    obtain ⟨rfl, rfl, _⟩ := h
    obtain ⟨ow1, f, css, R1, H⟩ := absorbAll_ok hA _ _ _ _ _ R hab
    obtain ⟨hm, ow2, R2, hall⟩ := join_ok R1 H hjt hdm
    -- the values, their cells
    have hcss : ∀ c ∈ css, c.length = τ.size := by
      intro c hc
      obtain ⟨i, hi, rfl⟩ := List.mem_iff_getElem.mp hc
      have hit : i < ts.length := by rw [H.len.2, ← H.len.1]; exact hi
      obtain ⟨x, cs, _, g2, _, g4⟩ := hall i ts[i].1 ts[i].2 (by simp [hit])
      rw [List.getElem?_eq_getElem hi] at g2
      simp only [Option.some.injEq] at g2
      rw [g2]
      exact (rep_len hm g4).1
    have hvals : (ps.toList.map fun p => a.eval p.2) = css.map (mkV τ) := by
      apply List.ext_getElem?
      intro i
      rw [List.getElem?_map, List.getElem?_map]
      by_cases hi : i < ts.length
      · obtain ⟨x, cs, g1, g2, g3, _⟩ := hall i ts[i].1 ts[i].2 (by simp [hi])
        rw [List.getElem?_map] at g1
        rw [g2]
        cases hq : ps.toList[i]? with
        | none => rw [hq] at g1; cases g1
        | some q => rw [hq] at g1; simp at g1; subst g1; simp [g3]
      · have k1 := H.len.1
        have k2 := H.len.2
        simp only [List.length_map] at k1 k2
        rw [List.getElem?_eq_none (by omega), List.getElem?_eq_none (by omega)]
        rfl
    have hcells : ∀ c ∈ css, (mkV τ c).cells = c.toArray := by
      intro c hc
      obtain ⟨i, hi, rfl⟩ := List.mem_iff_getElem.mp hc
      have hit : i < ts.length := by rw [H.len.2, ← H.len.1]; exact hi
      obtain ⟨x, cs, _, g2, _, g4⟩ := hall i ts[i].1 ts[i].2 (by simp [hit])
      rw [List.getElem?_eq_getElem hi] at g2
      simp only [Option.some.injEq] at g2
      rw [g2]
      obtain ⟨l1, l2⟩ := rep_len hm g4
      exact mkV_cells hm l1 l2
    have hlen : css.length = n := by have := H.len.1; simp only [List.length_map] at this; omega
    have hlts : ts.length = n := by rw [H.len.2, ← H.len.1, hlen]
    have hpos : 0 < τ.size := by omega
    have hfill : Instr.fill (fun i => some (i * j.size, j.size)) ((Array.range (n * j.size)).map ((mkV τ0 τ0.zeros).cells[· % (mkV τ0 τ0.zeros).cells.size]!)) (ps.map fun (i, x) => (i, a.eval x)).toList = some css.flatten.toArray := by
      have e1 : (ps.map fun (i, x) => (i, a.eval x)).toList = ((css.map (mkV τ)).zipIdx 0).map fun x => (x.2, x.1) := by
        rw [← hvals, ← inOrder_zip ps.toList 0 hk1]
        simp
      rw [e1, hjs, ← hk5]
      rw [Great.fill_whole hpos (css.map (mkV τ)) _ (fun v hv => by
        obtain ⟨c, hc, rfl⟩ := List.mem_map.mp hv
        rw [hcells c hc]; simpa using hcss c hc) (by simp [hlen])]
      rw [flat_cells css hcells]
    have hrun : (Instr.buildSlice t n (ps.map fun (i, x) => (i, a.eval x))).run P w = .ok (.slice (some ⟨w.heap.size, 0, none⟩) n n) (w.alloc (.cells css.flatten.toArray e0)) := by
      by_cases hn0 : n = 0
      · subst hn0
        have hps : ps.toList = [] := List.length_eq_zero_iff.mp hk2
        have hps' : ps = #[] := by apply Array.ext'; simpa using hps
        subst hps'
        have hcss0 : css = [] := List.length_eq_zero_iff.mp hlen
        subst hcss0
        simp [Instr.buildSlice, run_underlying hu, sizeOf, typeInfo, hj, Instr.fill, newRow]
        congr 2
        apply Array.ext'; simp
      · refine run_buildSlice w t e0 n _ css.flatten.toArray j _ hu hj hz (by rw [hjs]; omega) (by
          rw [hjs]; intro h0
          rcases Nat.mul_eq_zero.mp h0 with h0 | h0 <;> omega) hfill
    refine ⟨.slice (some ⟨w.heap.size, 0, none⟩) n n, w.alloc (.cells css.flatten.toArray e0), by simp [execOp, ho, hrun], ?_⟩
    have := left_row (F1 := F2) (C := C) (a := a) (τ := τ) (f := f) (css := css) (ds := ts.map (·.2)) (c := css.flatten.toArray) (te := e0) (cap := n) (rest := []) R2 (by simp [hlen, hlts]) hcss (fun i d hi => by
      obtain ⟨t0, ht0⟩ := map_snd_get hi
      obtain ⟨x, cs, _, g2, _, g4⟩ := hall i t0 d ht0
      exact ⟨cs, g2, g4⟩) (by simp) (by rw [List.size_toArray, flat_len css hcss, hlen]; exact Nat.le_refl _) (by simp [hlts])
    simpa [hlts] using this
  · cases h


/-- The zero value of a type. -/
theorem zeros_rep {S O : Nat → Prop} : ∀ (τ : Ty), τ.plainZ = true → rep w S τ O τ.zero τ.zeros ∧ τ.zeros.length = τ.size
  | .int _, _ => ⟨rfl, rfl⟩
  | .bool, _ => ⟨rfl, rfl⟩
  | .str, _ => ⟨rfl, rfl⟩
  | .unit, _ => ⟨rfl, rfl⟩
  | .pair a b, h => by
    simp only [Ty.plainZ, Bool.and_eq_true] at h
    obtain ⟨h1, h2⟩ := zeros_rep (S := S) (O := fun x => O x ∧ true = true) a h.1
    obtain ⟨h3, h4⟩ := zeros_rep (S := S) (O := fun x => O x ∧ true = false) b h.2
    exact ⟨⟨a.zeros, b.zeros, fun _ => true, rfl, h2, h1, h3⟩, by simp [Ty.zeros, Ty.size, h2, h4]⟩
  | .sl o e, h => by
    cases o with
    | true => exact ⟨.inl ⟨rfl, rfl, rfl⟩, rfl⟩
    | false => exact ⟨⟨none, 0, rfl, rfl, fun _ => rfl, Nat.le_refl _, fun i x hx => by simp [Ty.zero, D.toL] at hx⟩, rfl⟩
  | .bx _ _, h => by cases h
  | .clo _ _, h => by cases h
  | .tnil, h => by cases h
  | .tcons _ _, h => by cases h
  | .gone, h => by cases h

theorem flatten_replicate {z : List Value} (n : Nat) : ((Array.range (n * z.length)).map (z.toArray[· % z.toArray.size]!)).toList = (List.replicate n z).flatten := by
  apply List.ext_getElem?
  intro k
  by_cases hz : z.length = 0
  · have : z = [] := List.length_eq_zero_iff.mp hz
    subst this
    simp
  have hlen : (List.replicate n z).flatten.length = n * z.length := by simp
  by_cases hk : k < n * z.length
  · have hd : k / z.length < n := (Nat.div_lt_iff_lt_mul (by omega)).mpr hk
    obtain ⟨pre, post, h1, h2⟩ := flat_split (z := z.length) (List.replicate n z) (k / z.length) z (fun c hc => by rw [List.eq_of_mem_replicate hc]) (by simp [hd])
    rw [h1]
    have hm : k = pre.length + k % z.length := by rw [h2, Nat.mul_comm]; exact (Nat.div_add_mod k z.length).symm
    have hml : k % z.length < z.length := Nat.mod_lt _ (by omega)
    rw [List.append_assoc]
    conv => rhs; rw [hm]
    rw [List.getElem?_append_right (by omega), List.getElem?_append_left (by omega)]
    simp [hk, hml]
  · rw [List.getElem?_eq_none (by simp; omega), List.getElem?_eq_none (by rw [hlen]; omega)]

theorem makeSliceE_ok {t : Nat} {n c : Operand} (hT : TOk P T) (R : Rel C F ow a w) (ho : o.op = .makeSlice t n c) (h : makeSliceE T t n c F = some (F1, e, vc)) (hv : vc) : OpOk P C o a w F1 e := by
  unfold makeSliceE at h
  split at h
  · rename_i e0 bytes τ ht
    have h1 := hT t
    rw [ht] at h1
    obtain ⟨_, j, _, _, hu, _, hj, hjs, hjb, hpz, hz, hm⟩ := h1
    rw [Option.bind_eq_some_iff] at h
    obtain ⟨⟨t1, d1⟩, hn, h⟩ := h
    rw [Option.bind_eq_some_iff] at h
    obtain ⟨⟨t2, d2⟩, hc, h⟩ := h
    simp only at h
    split at h
    · rename_i k1 k2
      simp only [resIf, Option.some.injEq, Prod.mk.injEq] at h
      obtain ⟨rfl, rfl, rfl⟩ := h
      obtain ⟨v1, v2, v3, v4⟩ := hv
      have e1 := view_int R hn
      have e2 := view_int R hc
      obtain ⟨zr, zl⟩ := zeros_rep (w := w) (S := Stb C ow w) (O := fun b => ow b = some C.n) τ hpz
      have hzc : (mkV τ τ.zeros).cells = τ.zeros.toArray := by
        obtain ⟨l1, l2⟩ := rep_len hm zr
        exact mkV_cells hm l1 l2
      have w1 : IntKind.i64.wrap d1.toI = d1.toI := by unfold IntKind.wrap IntKind.bits IntKind.signed; simp; omega
      have w2 : IntKind.i64.wrap d2.toI = d2.toI := by unfold IntKind.wrap IntKind.bits IntKind.signed; simp; omega
      have hrun : (Instr.makeSlice t (.int k1 d1.toI) (.int k2 d2.toI)).run P w = .ok (.slice (some ⟨w.heap.size, 0, none⟩) d1.toI.toNat d2.toI.toNat) (w.alloc (.cells (List.replicate d2.toI.toNat τ.zeros).flatten.toArray e0)) := by
        have hfl := flatten_replicate (z := τ.zeros) d2.toI.toNat
        have hfl' : (Array.range (d2.toI.toNat * τ.zeros.length)).map (τ.zeros.toArray[· % τ.zeros.toArray.size]!) = (List.replicate d2.toI.toNat τ.zeros).flatten.toArray := by
          apply Array.ext'; simpa using hfl
        have c1 : ¬ (d2.toI < 0) := by omega
        have c2 : ¬ ((bytes : Int) * d2.toI > 2 ^ 48) := by rw [Int.mul_comm]; omega
        have c3 : ¬ d1.toI < 0 := by omega
        have c4 : ¬ d2.toI < d1.toI := by omega
        have c5 : ¬ (281474976710656 < (bytes : Int) * d2.toI) := by rw [Int.mul_comm]; omega
        by_cases hn0 : d2.toI.toNat * τ.size = 0
        · simp [Instr.makeSlice, run_underlying hu, asInt, asIntOf, typeInfo, sizeOf, hj, hjs, hjb, w1, w2, c1, c2, c3, c4, c5, hn0, newRow]
          congr 2
          apply Array.ext'
          have hl0 : (List.replicate d2.toI.toNat τ.zeros).flatten = [] := List.length_eq_zero_iff.mp (by simp [zl, hn0])
          rw [List.toList_toArray, hl0]
          simp
        · simp [Instr.makeSlice, run_underlying hu, asInt, asIntOf, typeInfo, sizeOf, hj, hjs, hjb, w1, w2, c1, c2, c3, c4, c5, hn0, zeroValue, hz, hzc, newRow]
          congr 2
          rw [zl] at hfl'
          simpa [zl] using hfl'
      refine ⟨.slice (some ⟨w.heap.size, 0, none⟩) d1.toI.toNat d2.toI.toNat, w.alloc (.cells (List.replicate d2.toI.toNat τ.zeros).flatten.toArray e0), by simp [execOp, ho, e1, e2, hrun], ?_⟩
      have := left_row (F1 := F) (C := C) (a := a) (τ := τ) (f := fun _ => 0) (css := List.replicate d1.toI.toNat τ.zeros) (ds := List.replicate d1.toI.toNat τ.zero) (c := (List.replicate d2.toI.toNat τ.zeros).flatten.toArray) (te := e0) (cap := d2.toI.toNat) (rest := (List.replicate (d2.toI.toNat - d1.toI.toNat) τ.zeros).flatten) R (by simp)
        (fun c hc => by rw [List.eq_of_mem_replicate hc, zl]) (fun i d hi => by
          rw [List.getElem?_replicate] at hi
          split at hi
          · rename_i hlt
            simp only [Option.some.injEq] at hi
            subst hi
            exact ⟨τ.zeros, by rw [List.getElem?_replicate, if_pos hlt], (zeros_rep τ hpz).1⟩
          · cases hi) (by
          rw [← List.flatten_append, List.replicate_append_replicate]
          have : d1.toI.toNat + (d2.toI.toNat - d1.toI.toNat) = d2.toI.toNat := by omega
          rw [this]) (by simp [zl]) (by simp; omega)
      simpa using this
    · cases h
  · cases h

end
end Go.Pi
