/- Each operation does what the generator says: what writes: append. -/
import Derived.Test.YtkcgbkijlnpoiaaPiSlice
import Derived.Deep.Upon
namespace Go.Pi

/-- Some cells of a row are set. -/
def setRange : Array Value → Nat → List Value → Array Value
  | c, _, [] => c
  | c, o, v :: vs => setRange (c.setIfInBounds o v) (o + 1) vs

theorem setRange_size : ∀ (vs : List Value) (c : Array Value) (o : Nat), (setRange c o vs).size = c.size
  | [], _, _ => rfl
  | v :: vs, c, o => by rw [setRange, setRange_size vs]; simp

theorem setRange_get : ∀ (vs : List Value) (c : Array Value) (o k : Nat), o + vs.length ≤ c.size → (setRange c o vs)[k]? = if o ≤ k ∧ k < o + vs.length then vs[k - o]? else c[k]?
  | [], c, o, k, _ => by simp only [setRange, List.length_nil]; rw [if_neg (by omega)]
  | v :: vs, c, o, k, h => by
    simp only [List.length_cons] at h
    rw [setRange, setRange_get vs _ _ _ (by simp; omega)]
    simp only [List.length_cons]
    by_cases hk : k = o
    · subst hk
      rw [if_neg (by omega), if_pos ⟨Nat.le_refl _, by omega⟩, Nat.sub_self, List.getElem?_cons_zero]
      simp [show k < c.size by omega]
    · by_cases h1 : o + 1 ≤ k ∧ k < o + 1 + vs.length
      · rw [if_pos h1, if_pos (by omega)]
        obtain ⟨m, rfl⟩ : ∃ m, k = o + 1 + m := ⟨k - (o + 1), by omega⟩
        have e1 : o + 1 + m - (o + 1) = m := by omega
        have e2 : o + 1 + m - o = m + 1 := by omega
        rw [e1, e2, List.getElem?_cons_succ]
      · rw [if_neg h1, if_neg (by omega), Array.getElem?_setIfInBounds_ne (by omega)]

theorem heap_setCell_eq {w : World} {g o te : Nat} {c : Array Value} {fr : Nat × Nat} {v : Value} (h : w.heap[g]? = some (.cells c te fr)) :
    (w.setCell ⟨g, o, none⟩ v).heap[g]? = some (.cells (c.setIfInBounds o v) te fr) ∧ (∀ b, b ≠ g → (w.setCell ⟨g, o, none⟩ v).heap[b]? = w.heap[b]?) ∧ (w.setCell ⟨g, o, none⟩ v).heap.size = w.heap.size := by
  refine ⟨?_, fun b hb => ?_, by simp [World.setCell]⟩
  · simp [World.setCell, Array.getElem?_modify, h]
  · simp only [World.setCell, Array.getElem?_modify]
    rw [if_neg (fun e => hb e.symm)]

theorem heap_setCells : ∀ (vs : List Value) (w : World) (g o te : Nat) (c : Array Value) (fr : Nat × Nat), w.heap[g]? = some (.cells c te fr) →
    (w.setCells g o vs).heap[g]? = some (.cells (setRange c o vs) te fr) ∧ (∀ b, b ≠ g → (w.setCells g o vs).heap[b]? = w.heap[b]?) ∧ (w.setCells g o vs).heap.size = w.heap.size
  | [], w, g, o, te, c, fr, h => ⟨h, fun _ _ => rfl, rfl⟩
  | v :: vs, w, g, o, te, c, fr, h => by
    obtain ⟨h1, h2, h3⟩ := heap_setCell_eq (o := o) (v := v) h
    obtain ⟨k1, k2, k3⟩ := heap_setCells vs (w.setCell ⟨g, o, none⟩ v) g (o + 1) te _ fr h1
    exact ⟨k1, fun b hb => (k2 b hb).trans (h2 b hb), k3.trans h3⟩

theorem same_setCells : ∀ (vs : List Value) (w : World) (g o : Nat), (w.setCells g o vs).os = w.os ∧ (w.setCells g o vs).output = w.output ∧ (w.setCells g o vs).tape = w.tape
  | [], _, _, _ => ⟨rfl, rfl, rfl⟩
  | v :: vs, w, g, o => same_setCells vs (w.setCell ⟨g, o, none⟩ v) g (o + 1)

theorem exists_list {α β : Type} {Q : Nat → α → β → Prop} : ∀ (xs : List α), (∀ (i : Nat) (x : α), xs[i]? = some x → ∃ c, Q i x c) → ∃ cs : List β, cs.length = xs.length ∧ ∀ (i : Nat) (x : α), xs[i]? = some x → ∃ c, cs[i]? = some c ∧ Q i x c := by
  intro xs
  induction xs generalizing Q with
  | nil => exact fun _ => ⟨[], rfl, fun i x h => by simp at h⟩
  | cons x xs ih =>
    intro h
    obtain ⟨c, hc⟩ := h 0 x rfl
    obtain ⟨cs, h1, h2⟩ := ih (Q := fun i x c => Q (i + 1) x c) fun i y hy => h (i + 1) y (by simpa using hy)
    refine ⟨c :: cs, by simp [h1], fun i y hy => ?_⟩
    cases i with
    | zero => simp at hy; subst hy; exact ⟨c, rfl, hc⟩
    | succ i => simp only [List.getElem?_cons_succ] at hy ⊢; exact h2 i y hy

theorem flat_lies {w : World} {g z : Nat} : ∀ (css : List (List Value)) (o : Nat), (∀ c ∈ css, c.length = z) → (∀ (i : Nat) (c : List Value), css[i]? = some c → lies w g (o + i * z) c) → lies w g o css.flatten
  | [], o, _, _ => fun j v h => by simp at h
  | c :: css, o, hz, h => by
    intro j v hv
    rw [List.flatten_cons] at hv
    have hcz := hz c (by simp)
    by_cases hj : j < c.length
    · rw [List.getElem?_append_left hj] at hv
      have := h 0 c rfl j v hv
      simpa using this
    · rw [List.getElem?_append_right (by omega)] at hv
      have := flat_lies css (o + z) (fun c hc => hz c (by simp [hc])) (fun i c' hc' => by
        have := h (i + 1) c' (by simpa using hc')
        rw [Nat.succ_mul] at this
        rw [show o + z + i * z = o + (i * z + z) by omega]; exact this) (j - c.length) v hv
      rw [show o + z + (j - c.length) = o + j by omega] at this
      exact this

section
variable {P : Program} {C : Ctx} {T : Nat → TI} {A : Ann} {F F1 : Fr} {ow : Nat → Option Nat} {a : Act} {w : World} {e : Ent} {vc : Prop} {o : Oper}

theorem Rel.drew (R : Rel C F ow a w) : Rel C F ow a w.drew :=
  R.change (fun _ _ h => h) (fun b hb => ⟨hb, rfl⟩) (fun _ _ _ => ⟨rfl, fun _ _ _ b hb => ⟨hb, rfl⟩, fun _ _ => ⟨rfl, fun b hb => ⟨hb, rfl⟩⟩⟩) rfl rfl (fun _ _ => rfl) R.own (fun _ _ _ _ => rfl) (Nat.le_refl _) rfl rfl rfl

theorem Stb.drew {b : Nat} : Stb C ow w.drew b ↔ Stb C ow w b := Iff.rfl

theorem setCells_thaw : ∀ (vs : List Value) (w : World) (g q : Nat) (b : Addr), (w.setCells g q vs).frozen? b = w.frozen? b
  | [], _, _, _, _ => rfl
  | v :: r, w, g, q, b => by rw [World.setCells, setCells_thaw r _ g (q + 1) b]; exact World.frozen?_setCell _ _ _ _

/-- Cells of a block of slot n's are set. -/
theorem Rel.setCells (R : Rel C F ow a w) {g q te : Nat} {c : Array Value} (vs : List Value) (hg : ow g = some C.n) (hc : w.heap[g]? = some (.cells c te (0, 0))) :
    Rel C F ow a (w.setCells g q vs) ∧ ∀ b, Stb C ow w b → Stb C ow (w.setCells g q vs) b ∧ (w.setCells g q vs).heap[b]? = w.heap[b]? := by
  obtain ⟨k1, k2, k3⟩ := heap_setCells vs w g q te c (0, 0) hc
  obtain ⟨s1, s2, s3⟩ := same_setCells vs w g q
  have hst : ∀ b, Stb C ow w b → Stb C ow (w.setCells g q vs) b ∧ (w.setCells g q vs).heap[b]? = w.heap[b]? := fun b hb =>
    ⟨⟨hb.1, by rw [k3]; exact hb.2.1, hb.2.2⟩, k2 b fun e => by subst e; rw [hb.2.2] at hg; cases hg⟩
  obtain ⟨o1, o2⟩ := R.own g _ hg
  have o3 := o2.resolve_left fun h => by have := R.protlt _ h.1; omega
  refine ⟨R.change (fun _ _ h => h) hst (fun s e h => ?_) rfl rfl (fun _ _ => rfl) (fun b s hb => by rw [k3]; exact R.own b s hb) (fun b h1 h2 h3 => k2 b fun e => by subst e; rcases o3 with h | h <;> first | exact h3 h | omega) (by rw [k3]; exact Nat.le_refl _) s1 s2 s3 (setCells_thaw vs w g q), hst⟩
  have hs := R.lt s e h
  exact ⟨rfl, fun _ _ _ b hb => ⟨hb, k2 b fun e => by subst e; rw [hg] at hb; simp only [Option.some.injEq] at hb; omega⟩, fun r hr => ⟨rfl, fun b hb => ⟨hb, k2 b fun e' => by
    subst e'; rw [hg] at hb; simp only [Option.some.injEq] at hb; have := R.root s e r h hr; omega⟩⟩⟩

/-- How an append runs. -/
structure AppRuns (P : Program) (X : Sem Value) (w : World) (B : Option Addr) (n1 cap n2 size bytes e0 : Nat) (zv : Value) (news : List Value) : Prop where
  room : ∀ g q, B = some ⟨g, q, none⟩ → n1 + n2 ≤ cap → (∀ k, k < news.length → (w.cell? ⟨g, q + n1 * size + k, none⟩).isSome = true) → (∀ k, k < news.length → w.frozen? ⟨g, q + n1 * size + k, none⟩ = false) →
    X.run P w = .ok (.slice (some ⟨g, q, none⟩) (n1 + n2) cap) (w.setCells g (q + n1 * size) news)
  nothing : B = none → n1 = 0 → n2 = 0 → cap = 0 → X.run P w = .ok (.slice none 0 0) w
  grow : ∀ olds : List Value, (Builtin.firstCells size n1 (.slice B n1 cap)).run P w.drew = .ok olds.toArray w.drew → cap < n1 + n2 → ((n1 + n2 : Nat) : Int) ≤ 9223372036854775807 → Builtin.nextslicecap (n1 + n2) cap * bytes ≤ 281474976710656 →
    X.run P w = .ok (.slice (some ⟨w.heap.size, 0, none⟩) (n1 + n2) (grownCap w (n1 + n2) cap e0)) (w.drew.alloc (.cells ((olds ++ news).toArray ++ Builtin.zeroCells zv.cells (grownCap w (n1 + n2) cap e0 - (n1 + n2))) e0))

theorem AppRuns.ofSrc {t tx ty e0 : Nat} {j : TypeInfo} {zv : Value} (hu : P.underlying t = some (.slice e0)) (hj : P.info? e0 = some j) (hz : j.zero = some zv) (B : Option Addr) (n1 cap : Nat) (x : Value) (n2 : Nat) (news : List Value)
    (hs : Src P j.size tx x n2 news w) : AppRuns P (Builtin.append_ #[t, tx] ty #[.slice B n1 cap, x]) w B n1 cap n2 j.size j.bytes e0 zv news where
  room g q hB h1 h2 h3 := by subst hB; exact run_append_room_src w t tx ty e0 j hu hj g q n1 cap x n2 news hs h1 h2 h3
  nothing hB h1 h2 h3 := by
    subst hB h1 h2 h3
    have hl := hs.newsLen
    have : news = [] := List.length_eq_zero_iff.mp (by simpa using hl)
    subst this
    exact run_append_nothing w t tx ty e0 j hu hj none 0 0 (Nat.le_refl _) x hs
  grow olds ho h1 h2 h3 := run_append_grow_src w t tx ty e0 j zv hu hj hz B n1 cap olds ho x n2 news hs h1 h2 h3

/-- Elements are appended to a row of slot n's (or to nil). The old elements, and the new ones: their cells, and what they own. -/
theorem append_left {X : Sem Value} {e0 bytes : Nat} {τ : Ty} {B : Option Addr} {cap : Nat} {ds1 ds2 : List D} {css1 css2 : List (List Value)} {O1 O2 : Nat → Prop} {f1 f2 : Nat → Nat} {z1 : Bool} {zv : Value}
    (R : Rel C F ow a w) (hzs : zv.cells.size = τ.size)
    (l1 : css1.length = ds1.length) (l2 : css2.length = ds2.length)
    (hO1 : ∀ b, O1 b → ow b = some C.n ∧ ¬ O2 b) (hO2 : ∀ b, O2 b → ow b = some C.n)
    (h1 : ∀ (i : Nat) (d : D), ds1[i]? = some d → ∃ cs, css1[i]? = some cs ∧ cs.length = τ.size ∧ rep w (Stb C ow w) τ (fun b => O1 b ∧ f1 b = i) d cs)
    (h2 : ∀ (i : Nat) (d : D), ds2[i]? = some d → ∃ cs, css2[i]? = some cs ∧ cs.length = τ.size ∧ rep w (Stb C ow w) τ (fun b => O2 b ∧ f2 b = i) d cs)
    (hB : (B = none ∧ ds1 = [] ∧ cap = 0 ∧ z1 = true) ∨ ∃ g q c te, B = some ⟨g, q, none⟩ ∧ z1 = false ∧ ow g = some C.n ∧ ¬ O1 g ∧ ¬ O2 g ∧ w.heap[g]? = some (.cells c te (0, 0)) ∧ q + cap * τ.size ≤ c.size ∧ ds1.length ≤ cap ∧ lies w g q css1.flatten)
    (hs : AppRuns P X w B ds1.length cap ds2.length τ.size bytes e0 zv css2.flatten)
    (hb1 : (ds1.length + ds2.length) * bytes ≤ 140737488355328) (hb2 : ds1.length + ds2.length ≤ 140737488355328) :
    ∃ v w', X.run P w = .ok v w' ∧ Left C F (.val (.sl true τ) (.l (ds1 ++ ds2) (z1 && ds2.isEmpty))) v a w' := by
  have hc1 : ∀ c ∈ css1, c.length = τ.size := by
    intro c hc
    obtain ⟨i, hi, rfl⟩ := List.mem_iff_getElem.mp hc
    obtain ⟨cs, k1, k2, _⟩ := h1 i ds1[i] (by simp [← l1, hi])
    rw [List.getElem?_eq_getElem hi] at k1
    simp only [Option.some.injEq] at k1
    rw [k1]; exact k2
  have hc2 : ∀ c ∈ css2, c.length = τ.size := by
    intro c hc
    obtain ⟨i, hi, rfl⟩ := List.mem_iff_getElem.mp hc
    obtain ⟨cs, k1, k2, _⟩ := h2 i ds2[i] (by simp [← l2, hi])
    rw [List.getElem?_eq_getElem hi] at k1
    simp only [Option.some.injEq] at k1
    rw [k1]; exact k2
  have fl1 := flat_len css1 hc1
  have fl2 := flat_len css2 hc2
  rw [l1] at fl1; rw [l2] at fl2
  classical
  let f : Nat → Nat := fun b => if O1 b then f1 b else ds1.length + f2 b
  have hall : ∀ (w' : World) (ow' : Nat → Option Nat) (hst : ∀ b, Stb C ow w b → Stb C ow' w' b ∧ w'.heap[b]? = w.heap[b]?) (Q : Nat → Prop) (hQ : ∀ b, (O1 b ∨ O2 b) → Q b ∧ w'.heap[b]? = w.heap[b]?),
      ∀ (i : Nat) (d : D), (ds1 ++ ds2)[i]? = some d → ∃ cs, (css1 ++ css2)[i]? = some cs ∧ rep w' (Stb C ow' w') τ (fun b => Q b ∧ f b = i) d cs := by
    intro w' ow' hst Q hQ i d hd
    by_cases hi : i < ds1.length
    · rw [List.getElem?_append_left hi] at hd
      obtain ⟨cs, k1, _, k3⟩ := h1 i d hd
      refine ⟨cs, by rw [List.getElem?_append_left (by omega)]; exact k1, rep_mono hst _ _ _ _ _ (fun b hb => ⟨⟨(hQ b (.inl hb.1)).1, ?_⟩, (hQ b (.inl hb.1)).2⟩) k3⟩
      show (if O1 b then f1 b else ds1.length + f2 b) = i
      rw [if_pos hb.1, hb.2]
    · rw [List.getElem?_append_right (by omega)] at hd
      obtain ⟨cs, k1, _, k3⟩ := h2 _ d hd
      refine ⟨cs, by rw [List.getElem?_append_right (by omega), l1]; exact k1, rep_mono hst _ _ _ _ _ (fun b hb => ⟨⟨(hQ b (.inr hb.1)).1, ?_⟩, (hQ b (.inr hb.1)).2⟩) k3⟩
      show (if O1 b then f1 b else ds1.length + f2 b) = i
      rw [if_neg (fun h => (hO1 b h).2 hb.1), hb.2]
      omega
  by_cases hroom : ds1.length + ds2.length ≤ cap
  · -- there is room
    rcases hB with ⟨rfl, rfl, rfl, rfl⟩ | ⟨g, q, c, te, rfl, rfl, hg, hg1, hg2, hc, hq, hle, hlie⟩
    · have hd2 : ds2 = [] := by simpa using hroom
      subst hd2
      have hcs2 : css2 = [] := List.length_eq_zero_iff.mp l2
      subst hcs2
      refine ⟨_, w, hs.nothing rfl rfl rfl rfl, ow, R, ⟨[.slice none 0 0], rfl, .inl ⟨rfl, rfl, rfl⟩⟩, fun r hr => by cases hr⟩
    · have hmul : ds1.length * τ.size + ds2.length * τ.size ≤ cap * τ.size := by rw [← Nat.add_mul]; exact Nat.mul_le_mul_right _ hroom
      have hrun := hs.room g q rfl hroom (fun k hk => by
          have : q + ds1.length * τ.size + k < c.size := by omega
          simp [World.cell?, hc, this]) (fun k hk => by simp [World.frozen?, hc])
      obtain ⟨k1, k2, k3⟩ := heap_setCells css2.flatten w g (q + ds1.length * τ.size) te c (0, 0) hc
      obtain ⟨R', hst⟩ := R.setCells (q := q + ds1.length * τ.size) css2.flatten hg hc
      refine ⟨_, _, hrun, ow, R', ⟨[_], rfl, .inr ⟨g, q, cap, setRange c (q + ds1.length * τ.size) css2.flatten, te, by simp [D.toL], rfl, hg, k1, by rw [setRange_size]; exact hq, by simp [D.toL]; try exact hroom, f, fun i d hd => ?_⟩⟩, fun r hr => by cases hr⟩
      have hne : ∀ b, (O1 b ∨ O2 b) → b ≠ g := fun b hb e => by subst e; exact hb.elim hg1 hg2
      obtain ⟨cs, m1, m2⟩ := hall _ ow hst (fun b => ow b = some C.n ∧ b ≠ g) (fun b hb => ⟨⟨hb.elim (fun h => (hO1 b h).1) (hO2 b), hne b hb⟩, k2 b (hne b hb)⟩) i d hd
      have hcl : cs.length = τ.size := by
        rcases List.mem_append.mp (List.mem_of_getElem? m1) with h | h
        · exact hc1 _ h
        · exact hc2 _ h
      refine ⟨cs, hcl, m2, fun k v hv => ?_⟩
      have hkl : k < cs.length := (List.getElem?_eq_some_iff.mp hv).1
      have hwhole : q + ds1.length * τ.size + css2.flatten.length ≤ c.size := by omega
      have cell : (w.setCells g (q + ds1.length * τ.size) css2.flatten).cell? ⟨g, q + i * τ.size + k, none⟩ = (setRange c (q + ds1.length * τ.size) css2.flatten)[q + i * τ.size + k]? := by simp [World.cell?, k1]
      rw [cell, setRange_get _ _ _ _ hwhole]
      by_cases hi : i < ds1.length
      · have hle1 : (i + 1) * τ.size ≤ ds1.length * τ.size := Nat.mul_le_mul_right _ hi
        rw [Nat.succ_mul] at hle1
        rw [if_neg (by omega)]
        rw [List.getElem?_append_left (by omega)] at m1
        obtain ⟨pre, post, p1, p2⟩ := flat_split css1 i cs hc1 m1
        have := hlie (i * τ.size + k) v (by
          rw [p1, List.append_assoc, List.getElem?_append_right (by omega), p2, List.getElem?_append_left (by omega)]
          rw [show i * τ.size + k - i * τ.size = k by omega]; exact hv)
        rw [← Nat.add_assoc] at this
        simpa [World.cell?, hc] using this
      · rw [List.getElem?_append_right (by omega), l1] at m1
        obtain ⟨pre, post, p1, p2⟩ := flat_split css2 _ cs hc2 m1
        obtain ⟨m, rfl⟩ : ∃ m, i = ds1.length + m := ⟨i - ds1.length, by omega⟩
        have hm' : ds1.length + m - ds1.length = m := by omega
        rw [hm'] at p2
        have e1 : (ds1.length + m) * τ.size = ds1.length * τ.size + m * τ.size := Nat.add_mul ..
        have hlen2 : css2.flatten.length = pre.length + cs.length + post.length := by rw [p1]; simp; omega
        rw [if_pos (by omega), show q + (ds1.length + m) * τ.size + k - (q + ds1.length * τ.size) = m * τ.size + k by omega]
        rw [p1, List.append_assoc, List.getElem?_append_right (by omega), p2, List.getElem?_append_left (by omega)]
        rw [show m * τ.size + k - m * τ.size = k by omega]; exact hv
  · -- there is none: a new row
    have hgrow : cap < ds1.length + ds2.length := by omega
    have hold : (Builtin.firstCells τ.size ds1.length (.slice B ds1.length cap)).run P w.drew = .ok css1.flatten.toArray w.drew := by
      rcases hB with ⟨rfl, rfl, rfl, rfl⟩ | ⟨g, q, c, te, rfl, rfl, hg, hg1, hg2, hc, hq, hle, hlie⟩
      · have hcs1 : css1 = [] := List.length_eq_zero_iff.mp l1
        subst hcs1
        exact run_firstCells_none w.drew τ.size 0 0 0
      · refine run_firstCells_some w.drew τ.size ds1.length _ _ _ _ fl1 (fun k v hv => ?_)
        rw [add_plain]
        have := hlie k v hv
        simpa using this
    have hrun := hs.grow css1.flatten hold hgrow (by omega) (growslice_fits hgrow hb1)
    have hge := grownCap_ge w (ds1.length + ds2.length) cap e0
    have hz1 : (z1 && ds2.isEmpty) = false := by
      rcases hB with ⟨rfl, rfl, rfl, rfl⟩ | ⟨_, _, _, _, _, rfl, _⟩
      · cases ds2 with
        | nil => simp at hgrow
        | cons => rfl
      · rfl
    rw [hz1]
    refine ⟨_, _, hrun, ?_⟩
    have := left_row (F1 := F) (C := C) (a := a) (w := w.drew) (ow2 := ow) (τ := τ) (f := f) (css := css1 ++ css2) (ds := ds1 ++ ds2)
      (c := (css1.flatten ++ css2.flatten).toArray ++ Builtin.zeroCells zv.cells (grownCap w (ds1.length + ds2.length) cap e0 - (ds1.length + ds2.length))) (te := e0) (cap := grownCap w (ds1.length + ds2.length) cap e0)
      (rest := (Builtin.zeroCells zv.cells (grownCap w (ds1.length + ds2.length) cap e0 - (ds1.length + ds2.length))).toList) R.drew (by simp [l1, l2])
      (fun c hc => (List.mem_append.mp hc).elim (hc1 c) (hc2 c))
      (hall w.drew ow (fun b hb => ⟨hb, rfl⟩) (fun b => ow b = some C.n) (fun b hb => ⟨hb.elim (fun h => (hO1 b h).1) (hO2 b), rfl⟩))
      (by simp) (by
        simp only [Array.size_append, List.size_toArray, List.length_append, fl1, fl2, size_zeroCells, hzs]
        rw [← Nat.add_mul, ← Nat.add_mul]
        exact Nat.mul_le_mul_right _ (by omega)) (by simp; exact hge)
    simpa using this

end
end Go.Pi
