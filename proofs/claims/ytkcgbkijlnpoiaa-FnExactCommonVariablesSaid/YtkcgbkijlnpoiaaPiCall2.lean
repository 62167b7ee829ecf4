/- A call does what the generator says: the whole. -/
import Derived.Test.YtkcgbkijlnpoiaaPiCall
namespace Go.Pi

/-- The functions that are called are there. -/
def Known (P : Program) (E : Env) : Prop := P.follows .mixedOrders = true ∧ ∀ g fns S, E.sg g fns = some S → ∃ fn, P.funcs[g]? = some fn ∧ (fn.name == "runtime.NumGoroutine") = false ∧ fn.body.isNone = false

section
variable {P : Program} {C : Ctx} {E : Env} {A : Ann} {F : Fr} {ow : Nat → Option Nat} {a : Act} {w : World} {o : Oper}

theorem callee_ok {f : Operand} {g : Nat} {caps : List (Ty × D)} (R : Rel C F ow a w) (h : calleeE F f = some (g, caps)) :
    ∃ cv : List Value, a.eval f = .func (.func g) #[] cv.toArray ∧ ∃ css : List (List Value), css.length = caps.length ∧ cv = css.flatten ∧
      ∀ (k : Nat) (t : Ty) (x : D), caps[k]? = some (t, x) → ∃ cs, css[k]? = some cs ∧ cs.length = t.size ∧ ∀ w' ow', (∀ b, Stb C ow w b → Stb C ow' w' b ∧ w'.heap[b]? = w.heap[b]?) → rd w' (Stb C ow' w') t x cs := by
  unfold calleeE at h
  split at h
  · simp only [Option.some.injEq, Prod.mk.injEq] at h
    obtain ⟨rfl, rfl⟩ := h
    exact ⟨[], rfl, [], rfl, rfl, fun k t x h => by simp at h⟩
  · rename_i s
    split at h
    · rename_i g' c d hF
      simp only [Option.map_eq_some_iff, Prod.mk.injEq] at h
      obtain ⟨l, hl, rfl, rfl⟩ := h
      obtain ⟨cs, e1, cv, rfl, hr⟩ := R.ents s _ hF
      obtain ⟨css, k1, k2, k3⟩ := capArgs_ok c d cv l hl hr
      refine ⟨cv, by rw [eval_tmp, e1]; rfl, css, k1, k2, fun k t x hk => ?_⟩
      obtain ⟨cs, h1, h2, h3⟩ := k3 k t x hk
      exact ⟨cs, h1, h2, fun w' ow' hst => rd_mono hst _ _ _ h3⟩
    · cases h
  · cases h

theorem flatten_ones : ∀ (css : List (List Value)) (k : Nat) (v : Value), (∀ c ∈ css, c.length = 1) → css.flatten[k]? = some v → css[k]? = some [v]
  | [], k, v, _, h => by simp at h
  | c :: css, k, v, hl, h => by
    obtain ⟨u, rfl⟩ := List.length_eq_one_iff.mp (hl c (by simp))
    cases k with
    | zero => simp at h ⊢; exact h
    | succ k => simp only [List.flatten_cons, List.singleton_append, List.getElem?_cons_succ] at h ⊢; exact flatten_ones css k v (fun c hc => hl c (by simp [hc])) h

theorem flatten_len1 : ∀ (css : List (List Value)), (∀ c ∈ css, c.length = 1) → css.flatten.length = css.length
  | [], _ => rfl
  | c :: css, hl => by rw [List.flatten_cons, List.length_append, flatten_len1 css (fun c hc => hl c (by simp [hc])), hl c (by simp), List.length_cons]; omega

theorem inoSlots_at {s : Nat} : ∀ (ars : List AR) (k : Nat), ars[k]? = some (.ino s) → (inoSlots ars)[(inoSlots (ars.take k)).length]? = some s
  | [], k, h => by simp at h
  | ar :: ars, 0, h => by
    simp only [List.getElem?_cons_zero, Option.some.injEq] at h
    subst h
    rfl
  | .bor :: ars, k + 1, h => inoSlots_at ars k (by simpa using h)
  | .tak d :: ars, k + 1, h => inoSlots_at ars k (by simpa using h)
  | .ino r :: ars, k + 1, h => by
    have := inoSlots_at ars k (by simpa using h)
    simpa [inoSlots] using this

theorem tup_reads : ∀ ts : List Ty, (∀ t ∈ ts, t.reads = false) → (tupTy ts).reads = false
  | [], _ => rfl
  | t :: ts, h => by simp [tupTy, Ty.reads, h t (by simp), tup_reads ts (fun t ht => h t (by simp [ht]))]

theorem mkV_tup : ∀ (ts : List Ty) (cs : List Value), mkV (tupTy ts) cs = .tuple cs.toArray
  | [], _ => rfl
  | _ :: _, _ => rfl

theorem call_ok {f : Operand} {args : Array Operand} {argTypes : Array TypeId} {K : Fr → Prop} {Q : Exit → Act → World → Prop} (hE : EnvOk P E) (hK : Known P E) (hA : A.prot = C.prot) (hn : A.n = C.n) (R : Rel C F ow a w)
    (ho : o.op = .call { callee := .value f, args, argTypes }) (h : pwCall E A o.dst args.size (callP E A f args.toList argTypes.toList F) K) :
    o.wp P a w (fun a' w' => ∃ F' ow', K F' ∧ Rel C F' ow' a' w') Q := by
  unfold pwCall at h
  cases hc : callP E A f args.toList argTypes.toList F with
  | none => rw [hc] at h; exact h.elim
  | some c =>
  rw [hc] at h
  simp only at h
  obtain ⟨rs, hrl, hsat, horF⟩ := exD_some _ _ h
  obtain ⟨F3, hF3, hKF⟩ := orF_some horF
  rw [Option.bind_eq_some_iff] at hF3
  obtain ⟨F2, hback, hput⟩ := hF3
  unfold callP at hc
  rw [Option.bind_eq_some_iff] at hc
  obtain ⟨⟨g, caps⟩, hcallee, hc⟩ := hc
  rw [Option.bind_eq_some_iff] at hc
  obtain ⟨S, hS, hc⟩ := hc
  rw [Option.bind_eq_some_iff] at hc
  obtain ⟨⟨F1, ars⟩, hargs, hc⟩ := hc
  replace hc := bind_guard hc; obtain ⟨hk, hc⟩ := hc
  rw [Option.bind_eq_some_iff] at hc
  obtain ⟨xs0, hdata, hc⟩ := hc
  simp only [Option.some.injEq] at hc
  subst hc
  simp only [Bool.and_eq_true] at hk hsat hback hput hrl
  obtain ⟨⟨hk1, hk2⟩, hap⟩ := hk
  have hk1 := Nat.eq_of_beq_eq_true hk1
  have hal : args.toList.length = args.size := by simp
  rw [hal] at hk1 hk2 hargs hdata
  -- the signature in two parts
  let n1 := args.size
  obtain ⟨capl, hcapf⟩ := capsFit_ok _ _ hk2
  obtain ⟨cv, hfv, css, hcl, rfl, hcaps⟩ := callee_ok R hcallee
  obtain ⟨xl, al, ow1, R1, hst1, _, facts⟩ := argsE_ok hA _ _ 0 _ _ _ _ R hargs
  obtain ⟨dl, dfacts⟩ := dataE_ok R1 _ _ _ _ hdata
  have hzl : (args.toList.zip argTypes.toList).length = n1 := by rw [List.length_zip, hal, hk1]; exact Nat.min_self _
  have hpl : (S.ps.take n1).length = n1 := by rw [← xl]; exact hzl
  have hple : n1 ≤ S.ps.length := by rw [List.length_take] at hpl; omega
  have hcss1 : ∀ c ∈ css, c.length = 1 := by
    intro c hc
    obtain ⟨i, hi, rfl⟩ := List.mem_iff_getElem.mp hc
    have hi2 : i < caps.length := by omega
    have hi3 : i < (S.ps.drop n1).length := by rw [capl]; exact hi2
    obtain ⟨_, _, b, e, he⟩ := hcapf i (S.ps.drop n1)[i] caps[i].1 caps[i].2 (List.getElem?_eq_getElem hi3) (List.getElem?_eq_getElem hi2)
    obtain ⟨cs, k1, k2, _⟩ := hcaps i caps[i].1 caps[i].2 (List.getElem?_eq_getElem hi2)
    rw [List.getElem?_eq_getElem hi] at k1
    simp only [Option.some.injEq] at k1
    rw [k1, k2, he]; rfl
  -- whose blocks are whose
  have hltino : ∀ (j r : Nat), ars[j]? = some (.ino r) → r < C.n := by
    intro j r hj
    have hj1 : j < ars.length := (List.getElem?_eq_some_iff.mp hj).1
    have hj2 : j < (S.ps.take n1).length := by omega
    have hj3 : j < (args.toList.zip argTypes.toList).length := by omega
    exact (facts j _ _ _ (List.getElem?_eq_getElem hj2) (List.getElem?_eq_getElem hj3) hj).2.1
  let o1 : Nat → Option Nat := fun b => (ow1 b).bind (ownIdx C.n 0 ars)
  let St : Nat → Prop := fun b => Stb C ow1 w b ∨ (S.leak = false ∧ ∃ s, ow1 b = some s ∧ s < C.n ∧ s ∉ inoSlots ars)
  have o1_none : ∀ b s, ow1 b = some s → s < C.n → s ∉ inoSlots ars → o1 b = none := by
    intro b s hb hs hns
    show (ow1 b).bind _ = none
    rw [hb]
    simp only [Option.bind_some]
    cases hi : ownIdx C.n 0 ars s with
    | none => rfl
    | some k =>
      obtain ⟨_, ar, h1, h2⟩ := ownIdx_some _ _ _ _ hi
      rcases h2 with ⟨d, _, h2⟩ | h2
      · omega
      · subst h2; exact absurd ((mem_inoSlots ars).mpr ⟨_, h1⟩) hns
  have hSt : ∀ b, St b → b < w.heap.size ∧ o1 b = none := by
    rintro b (hb | ⟨_, s, hb, hs, hns⟩)
    · refine ⟨hb.2.1, ?_⟩
      show (ow1 b).bind _ = none
      rw [hb.2.2]; rfl
    · exact ⟨(R1.own b s hb).1, o1_none b s hb hs hns⟩
  have ho1 : ∀ b i, o1 b = some i → b < w.heap.size := by
    intro b i hb
    cases hq : ow1 b with
    | none => have hb' : (ow1 b).bind (ownIdx C.n 0 ars) = some i := hb; rw [hq] at hb'; cases hb'
    | some q => exact (R1.own b q hq).1
  -- the arguments
  have hargsOk : ArgsOk w St o1 S.ps (args.toList.map a.eval ++ css.flatten) (xs0 ++ caps.map (·.2)) := by
    refine ⟨?_, ?_, fun i m v d hm hv hd => ?_⟩
    · rw [List.length_append, List.length_map, hal, flatten_len1 css hcss1, hcl, ← capl, List.length_drop]; omega
    · rw [List.length_append, List.length_map, dl, ← capl, ← List.length_append, List.take_append_drop]
    · by_cases hi : i < n1
      · have hm' : (S.ps.take n1)[i]? = some m := by rw [List.getElem?_take, if_pos hi]; exact hm
        have hv' : (args.toList.map a.eval)[i]? = some v := by rw [List.getElem?_append_left (by simpa [n1] using hi)] at hv; exact hv
        have hd' : xs0[i]? = some d := by rw [List.getElem?_append_left (by omega)] at hd; exact hd
        have hz : i < (args.toList.zip argTypes.toList).length := by omega
        have har : i < ars.length := by omega
        have hx1 : (args.toList.zip argTypes.toList)[i].1 = args.toList[i]'(by simpa [n1] using hi) := by simp
        have hv2 : v = a.eval (args.toList.zip argTypes.toList)[i].1 := by
          rw [hx1]
          rw [List.getElem?_map, List.getElem?_eq_getElem (by simpa [n1] using hi)] at hv'
          simpa using hv'.symm
        have fa := facts i _ _ _ hm' (List.getElem?_eq_getElem hz) (List.getElem?_eq_getElem har)
        have fd := dfacts i _ _ _ _ hm' (List.getElem?_eq_getElem hz) (List.getElem?_eq_getElem har) hd'
        rw [Nat.zero_add] at fa
        have hat := ownIdx_at (n := C.n) ars 0 i ars[i] hap hltino (List.getElem?_eq_getElem har)
        rw [Nat.zero_add] at hat
        cases hq : ars[i] with
        | bor =>
          rw [hq] at fa fd
          obtain ⟨cs, k1, k2⟩ := fd
          exact ⟨cs, by rw [hv2]; exact k1, fun _ => rd_mono (fun b hb => ⟨hb, rfl⟩) _ _ _ k2, fun hne => absurd fa hne⟩
        | tak d0 =>
          rw [hq] at fa fd hat
          obtain ⟨k0, cs, k1, k2⟩ := fa
          have fd : d = d0 := fd
          subst fd
          refine ⟨cs, by rw [hv2]; exact k1, fun hb => (by rw [k0] at hb; cases hb), fun _ => rep_mono (fun b hb => ⟨.inl hb, rfl⟩) _ _ _ _ _ (fun b hb => ⟨?_, rfl⟩) k2⟩
          show (ow1 b).bind _ = some i
          rw [hb]; exact hat.1 d rfl
        | ino r =>
          rw [hq] at fa fd hat
          obtain ⟨k0, k1, k2⟩ := fa
          have fd : F1 r = some (.val m.2 d) := fd
          obtain ⟨cs, e1, h1⟩ := R1.ents r _ fd
          refine ⟨cs, ?_, fun hb => (by rw [k0] at hb; cases hb), fun _ => rep_mono (fun b hb => ⟨.inl hb, rfl⟩) _ _ _ _ _ (fun b hb => ⟨?_, rfl⟩) h1⟩
          · rw [hv2, k2, e1]
          · show (ow1 b).bind _ = some i
            rw [hb]; exact hat.2 r rfl
      · obtain ⟨k, rfl⟩ : ∃ k, i = n1 + k := ⟨i - n1, by omega⟩
        have hm' : (S.ps.drop n1)[k]? = some m := by rw [List.getElem?_drop]; exact hm
        have hv' : css.flatten[k]? = some v := by
          rw [List.getElem?_append_right (by simp [n1])] at hv
          simpa [n1] using hv
        have hd' : (caps.map (·.2))[k]? = some d := by
          rw [List.getElem?_append_right (by omega)] at hd
          rw [show n1 + k - xs0.length = k by omega] at hd
          exact hd
        have hk : k < caps.length := by have := (List.getElem?_eq_some_iff.mp hd').1; simpa using this
        have hcap : caps[k]? = some (caps[k].1, d) := by
          rw [List.getElem?_map, List.getElem?_eq_getElem hk] at hd'
          rw [List.getElem?_eq_getElem hk]
          simp only [Option.map_some, Option.some.injEq] at hd'
          rw [← hd']
        obtain ⟨p1, p2, b, e, p3⟩ := hcapf k m _ _ hm' hcap
        obtain ⟨cs, q1, q2, q3⟩ := hcaps k _ _ hcap
        have q4 := flatten_ones css k v hcss1 hv'
        rw [q1] at q4
        simp only [Option.some.injEq] at q4
        subst q4
        refine ⟨[v], ?_, fun _ => ?_, fun hne => absurd p1 hne⟩
        · have : ∃ b' e', m.2 = .bx b' e' := by
            rw [p3] at p2
            cases hm2 : m.2 <;> rw [hm2] at p2 <;> simp [Ty.frz] at p2
            exact ⟨_, _, rfl⟩
          obtain ⟨b', e', hm2⟩ := this
          rw [hm2]; rfl
        · exact rd_of_eq p2 (rd_mono (fun b hb => ⟨.inl hb, rfl⟩) _ _ _ (q3 w ow1 (fun b hb => ⟨hst1 b hb, rfl⟩)))
  -- the call
  obtain ⟨fn, hfn, hname, hbody⟩ := hK.2 _ _ _ hS
  obtain ⟨S', hS', hSat⟩ := hE.2 _ _ _ _ hsat
  rw [hS] at hS'
  simp only [Option.some.injEq] at hS'
  subst hS'
  have hrun : (execOp a.eval o).run P w = .ok (.enter g (args.toList.map a.eval ++ css.flatten).toArray) w := by
    have hn1 : ¬ fn.name = "runtime.NumGoroutine" := fun e => by rw [e] at hname; simp at hname
    have hn2 : ¬ fn.body = none := fun e => by rw [e] at hbody; cases hbody
    simp [execOp, ho, resolve, hfv, Deferred.ofValue, invoke, callFunc, hfn, hn1, hn2]
  unfold Oper.wp
  rw [hrun, Oper.upon_enter]
  refine (hSat w St o1 _ hSt ho1 hargsOk).mono fun e w' => ?_
  rintro ⟨o', rvs, rfl, post⟩
  simp only
  have hpn : ∀ s, s ∈ C.prot → s < C.n := R1.protlt
  -- what is held in an argument's name
  have o1_some : ∀ b i, o1 b = some i → ∃ q, ow1 b = some q ∧ ∃ ar, ars[i]? = some ar ∧ ((∃ d, ar = .tak d ∧ q = C.n + 1 + i) ∨ ar = .ino q) := by
    intro b i hb
    cases hq : ow1 b with
    | none => have hb' : (ow1 b).bind (ownIdx C.n 0 ars) = some i := hb; rw [hq] at hb'; cases hb'
    | some q =>
      have hb' : (ow1 b).bind (ownIdx C.n 0 ars) = some i := hb
      rw [hq] at hb'
      obtain ⟨_, ar, h1, h2⟩ := ownIdx_some _ _ _ _ hb'
      exact ⟨q, rfl, ar, h1, h2⟩
  have factAt : ∀ (k : Nat) (ar : AR), ars[k]? = some ar → ∃ m x, S.ps[k]? = some m ∧ (args.toList.map a.eval ++ css.flatten)[k]? = some (a.eval x) ∧ ArgFact C w a ow1 k m x ar := by
    intro k ar hk
    have hk1 : k < ars.length := (List.getElem?_eq_some_iff.mp hk).1
    have hk2 : k < (S.ps.take n1).length := by omega
    have hk3 : k < (args.toList.zip argTypes.toList).length := by omega
    have hkn : k < n1 := by omega
    have fa := facts k _ _ _ (List.getElem?_eq_getElem hk2) (List.getElem?_eq_getElem hk3) hk
    rw [Nat.zero_add] at fa
    refine ⟨_, _, ?_, ?_, fa⟩
    · have := List.getElem?_eq_getElem hk2
      rw [List.getElem?_take, if_pos hkn] at this
      exact this
    · rw [List.getElem?_append_left (by simpa [n1] using hkn), List.getElem?_map, List.getElem?_eq_getElem (by simpa [n1] using hkn)]
      simp
  have tk_ok : ∀ b, tkOf o1 b → C.tk b ∨ C.w0.heap.size ≤ b := by
    intro b hb
    cases hi : o1 b with
    | none => exact absurd hi hb
    | some i =>
      obtain ⟨q, hq, _⟩ := o1_some b i hi
      rcases (R1.own b q hq).2 with h | h | h
      · exact .inl (R1.givtk _ _ h.2)
      · exact .inl h
      · exact .inr h
  have o'_none : ∀ b, b < w.heap.size → o1 b = none → o' b = none := by
    intro b hb h1
    cases hj : o' b with
    | none => rfl
    | some j =>
      rcases (post.own b j hj).2 with h2 | h2
      · exact absurd h1 h2
      · omega
  let nres := S.rs.length
  let ow2 : Nat → Option Nat := fun b => match o' b with
    | some j => if j < nres then some C.n else (inoSlots ars)[j - nres]?
    | none => if (o1 b).isSome then none else if b < w.heap.size then ow1 b else none
  have ow2_some : ∀ b j, o' b = some j → ow2 b = if j < nres then some C.n else (inoSlots ars)[j - nres]? := by
    intro b j h; show (match o' b with | some j => _ | none => _) = _; rw [h]
  have ow2_none : ∀ b, o' b = none → ow2 b = if (o1 b).isSome then none else if b < w.heap.size then ow1 b else none := by
    intro b h; show (match o' b with | some j => _ | none => _) = _; rw [h]
  have ow2_old : ∀ b, b < w.heap.size → o1 b = none → ow2 b = ow1 b := by
    intro b hb h1
    rw [ow2_none b (o'_none b hb h1), h1, if_pos hb]
    rfl
  have ow2_free : ∀ b, o' b = none → (ow1 b = none ∨ (o1 b).isSome = true ∨ w.heap.size ≤ b) → ow2 b = none := by
    intro b h1 h2
    rw [ow2_none b h1]
    split
    · rfl
    · rename_i h3
      split
      · rename_i h4
        rcases h2 with h2 | h2 | h2
        · exact h2
        · exact absurd h2 h3
        · omega
      · rfl
  -- what was only read may be read
  have stb2 : ∀ b, Stb C ow1 w b → Stb C ow2 w' b ∧ w'.heap[b]? = w.heap[b]? := by
    intro b hb
    have h1 : o1 b = none := by show (ow1 b).bind _ = none; rw [hb.2.2]; rfl
    refine ⟨⟨hb.1, Nat.lt_of_lt_of_le hb.2.1 post.grow, by rw [ow2_old b hb.2.1 h1]; exact hb.2.2⟩, post.frame b hb.2.1 h1⟩
  have keep : ∀ (t : Ty) (O O' : Nat → Prop) (d : D) (cs : List Value), (S.leak = false → t.reads = false) → (∀ b, O b → O' b) →
      rep w' (fun b => (St b ∨ tkOf o1 b ∨ w.heap.size ≤ b) ∧ b < w'.heap.size ∧ o' b = none) t O d cs → rep w' (Stb C ow2 w') t O' d cs := by
    intro t O O' d cs hl hO hr
    cases hlk : S.leak with
    | false => exact rep_mono (fun b hb => ⟨hb, rfl⟩) _ _ _ _ _ (fun b hb => ⟨hO b hb, rfl⟩) (rep_noreads t O d cs (hl hlk) hr)
    | true =>
      refine rep_mono (fun b hb => ⟨?_, rfl⟩) _ _ _ _ _ (fun b hb => ⟨hO b hb, rfl⟩) hr
      obtain ⟨h1, h2, h3⟩ := hb
      rcases h1 with (h1 | ⟨h1, _⟩) | h1 | h1
      · exact (stb2 b h1).1
      · rw [hlk] at h1; cases h1
      · refine ⟨.inr (tk_ok b h1), h2, ow2_free b h3 (.inr (.inl ?_))⟩
        cases hi : o1 b with
        | none => exact absurd hi h1
        | some i => rfl
      · exact ⟨.inr (.inr (Nat.le_trans R1.grow h1)), h2, ow2_free b h3 (.inr (.inr h1))⟩
  have hino : ∀ (k s : Nat), ars[k]? = some (.ino s) → (inoSlots (ars.take k)).length = inoNo S.ps k := by
    intro k s hk
    have hkn : k ≤ n1 := by have := (List.getElem?_eq_some_iff.mp hk).1; omega
    rw [ino_take (S.ps.take n1) ars k (by omega) (fun i m ar h1 h2 => ?_)]
    · unfold inoNo
      rw [List.take_take, Nat.min_eq_left hkn]
    · obtain ⟨m', x, hm, _, hf⟩ := factAt i ar h2
      have hi : i < n1 := by have := (List.getElem?_eq_some_iff.mp h2).1; omega
      rw [List.getElem?_take, if_pos hi] at h1
      rw [hm] at h1
      simp only [Option.some.injEq] at h1
      subst h1
      cases ar with
      | bor => rw [show m'.1 = _ from hf]; simp
      | tak d => rw [hf.1]; simp
      | ino r => rw [hf.1]; simp
  have reads_ino : S.leak = false → ∀ (k : Nat) (t : Ty), S.ps[k]? = some (.ino, t) → t.reads = false := by
    intro hl k t hk
    unfold Sg.leak at hl
    rw [Bool.or_eq_false_iff] at hl
    have h2 := List.any_eq_false.mp hl.2 _ (List.mem_of_getElem? hk)
    simpa using h2
  have reads_res : S.leak = false → ∀ t ∈ S.rs, t.reads = false := by
    intro hl t ht
    unfold Sg.leak at hl
    rw [Bool.or_eq_false_iff] at hl
    have := List.any_eq_false.mp hl.1 t ht
    simpa using this
  have R2 : Rel C F2 ow2 a w' := by
    have ents : ∀ s e, F2 s = some e → EntOk w' (Stb C ow2 w') ow2 (tmOf a) (tmOf a s) s e ∧ s < C.n ∧ ∀ r, e.root = some r → r < C.n := by
      intro s e hs
      rcases backE_ok _ _ _ _ _ hap hback s e hs with ⟨k, m, d, h1, h2, h3, rfl⟩ | ⟨h1, h2, h3⟩
      · obtain ⟨m', x, hm, hv, hf⟩ := factAt k _ h1
        have hkn : k < n1 := by have := (List.getElem?_eq_some_iff.mp h1).1; omega
        rw [List.getElem?_take, if_pos hkn, hm] at h2
        simp only [Option.some.injEq] at h2
        subst h2
        obtain ⟨g1, g2, g3⟩ := hf
        rw [hino k s h1] at h3
        obtain ⟨pm, t⟩ := m'
        simp only at g1
        subst g1
        obtain ⟨cs, e1, r1⟩ := post.fin k t _ d hm hv h3
        refine ⟨⟨cs, by rw [← g3]; exact e1, keep _ _ _ _ _ (fun hl => reads_ino hl k t hm) (fun b hb => ?_) r1⟩, g2, fun r hr => by cases hr⟩
        rw [ow2_some b _ hb, if_neg (by omega), show S.rs.length + inoNo S.ps k - nres = inoNo S.ps k by omega, ← hino k s h1]
        exact inoSlots_at ars k h1
      · have hsn := R1.lt s e h2
        refine ⟨EntOk.mono stb2 (fun t d _ b hb => ?_) (fun r hr => ⟨rfl, fun b hb => ?_⟩) (R1.ents s e h2), hsn, fun r hr => R1.root s e r h2 hr⟩
        · have hw := (R1.own b s hb).1
          have hn := o1_none b s hb hsn h1
          exact ⟨by rw [ow2_old b hw hn]; exact hb, post.frame b hw hn⟩
        · have hw := (R1.own b r hb).1
          have hn := o1_none b r hb (R1.root s e r h2 hr) (h3 r hr)
          exact ⟨by rw [ow2_old b hw hn]; exact hb, post.frame b hw hn⟩
    refine { R1 with
      ents := fun s e hs => (ents s e hs).1
      root := fun s e r hs hr => (ents s e hs).2.2 r hr
      lt := fun s e hs => (ents s e hs).2.1
      own := fun b s hb => ?_
      frame := fun b h1 h2 h3 => ?_
      grow := Nat.le_trans R1.grow post.grow
      os := by rw [post.os, R1.os]
      output := by rw [post.output, R1.output]
      tape := by rw [post.tape, R1.tape]
      thaw := fun b => by rw [post.thaw, R1.thaw] }
    · cases hj : o' b with
      | none =>
        rw [ow2_none b hj] at hb
        split at hb
        · cases hb
        · split at hb
          · obtain ⟨h1, h2⟩ := R1.own b s hb
            exact ⟨Nat.lt_of_lt_of_le h1 post.grow, h2⟩
          · cases hb
      | some j =>
        obtain ⟨h1, h2⟩ := post.own b j hj
        refine ⟨h1, ?_⟩
        rcases h2 with h2 | h2
        · exact .inr (tk_ok b h2)
        · exact .inr (.inr (Nat.le_trans R1.grow h2))
    · have hw : b < w.heap.size := Nat.lt_of_lt_of_le h1 R1.grow
      have hn : o1 b = none := by
        cases hi : o1 b with
        | none => rfl
        | some i =>
          obtain ⟨q, hq, _⟩ := o1_some b i hi
          rcases (R1.own b q hq).2 with h | h | h
          · exact absurd ⟨q, h⟩ h2
          · exact absurd h h3
          · omega
      rw [post.frame b hw hn]
      exact R1.frame b h1 h2 h3
  have hres : EntOk w' (Stb C ow2 w') ow2 (tmOf a) (retVal rvs) C.n (.val (retEnt S.rs (rs.take nres)).1 (retEnt S.rs (rs.take nres)).2) := by
    obtain ⟨v1, v2, v3⟩ := post.res
    have own0 : ∀ b j, j < nres → o' b = some j → ow2 b = some C.n := fun b j hj hb => by rw [ow2_some b j hb, if_pos hj]
    have tup : retEnt S.rs (rs.take nres) = (tupTy S.rs, tupD (rs.take nres)) → retVal rvs = .tuple rvs.toArray →
        EntOk w' (Stb C ow2 w') ow2 (tmOf a) (retVal rvs) C.n (.val (retEnt S.rs (rs.take nres)).1 (retEnt S.rs (rs.take nres)).2) := by
      intro h1 h2
      rw [h1, h2]
      refine ⟨rvs, (mkV_tup _ _).symm, keep _ (fun b => ∃ k, k < S.rs.length ∧ o' b = some (0 + k)) _ _ _ (fun hl => tup_reads _ (reads_res hl)) (fun b hb => ?_) (res_tup (o' := o') S.rs rvs (rs.take nres) 0 v1 v2 (fun k t v d ht hv hd => ?_))⟩
      · obtain ⟨k, hk, hb⟩ := hb
        rw [Nat.zero_add] at hb
        exact own0 b k hk hb
      · rw [Nat.zero_add]; exact v3 k t v d ht hv hd
    revert v1 v2 v3 tup own0
    generalize rs.take nres = rs'
    intro v1 v2 v3 own0 tup
    match hS1 : S.rs, rs', rvs, v1, v2, v3, tup with
    | [t], [d], [v], v1, v2, v3, _ =>
      obtain ⟨cs, e1, r1⟩ := v3 0 t v d rfl rfl rfl
      refine ⟨cs, e1, keep _ _ _ _ _ (fun hl => reads_res hl t (by rw [hS1]; simp)) (fun b hb => own0 b 0 (by show 0 < S.rs.length; rw [hS1]; simp) hb) r1⟩
    | [], [], [], _, _, _, tup => exact tup rfl rfl
    | t1 :: t2 :: ts, d1 :: d2 :: ds, u1 :: u2 :: us, _, _, _, tup => exact tup rfl rfl
  obtain ⟨ow3, R3⟩ := Left.put hA hn ⟨ow2, R2, hres, fun r hr => by cases hr⟩ hput
  exact ⟨F3, ow3, hKF, R3⟩

end
end Go.Pi
