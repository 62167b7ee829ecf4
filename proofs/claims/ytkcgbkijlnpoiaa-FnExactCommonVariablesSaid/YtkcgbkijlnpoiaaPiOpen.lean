/- From the reading of an argument (the words of the claims) to what the generator's contracts ask of an argument that is only read. -/
import Derived.Test.YtkcgbkijlnpoiaaPiSat
import Derived.Deep.Slices
import Derived.ChangeSame
import Derived.Carry
import Derived.ReadAgain
import Derived.RowKit3
namespace Go.Pi
open Go.ChangeShapes Go.WideShapes Go.Deep

/-- Data as a claim's words give them: numbers of their kind, lists that are no longer than they may be. -/
def wfD : Ty → D → Prop
  | .int k, d => ∃ n, d = .i n ∧ (Lit.int k n).wf = true
  | .bool, d => ∃ v, d = .b v
  | .str, d => ∃ s, d = .s s ∧ s.size ≤ maxLen
  | .unit, d => d = .u
  | .pair a b, d => ∃ x y, d = .p x y ∧ wfD a x ∧ wfD b y
  | .sl _ e, d => ∃ xs z, d = .l xs z ∧ xs.length ≤ maxLen ∧ (z = true → xs = []) ∧ ∀ x ∈ xs, wfD e x
  | _, _ => False

mutual
/-- A type of the program is of this kind. -/
def mT (P : Program) : Nat → Nat → Ty → Bool
  | 0, _, _ => false
  | n + 1, t, τ => match P.underlying t with
    | some (.int k) => decide (τ = .int k)
    | some .bool => decide (τ = .bool)
    | some .string => decide (τ = .str)
    | some (.slice e) => match τ with
      | .sl false et => mT P n e et && Nat.beq (P.cellsOf e) et.size && decide (0 < et.size)
      | _ => false
    | some (.struct fs) => mF P n fs.toList 0 τ && Nat.beq (P.cellsOf t) τ.size
    | _ => false
def mF (P : Program) : Nat → List Field → Nat → Ty → Bool
  | 0, _, _, _ => false
  | _ + 1, [], _, .unit => true
  | n + 1, f :: fs, o, .pair a b => Nat.beq f.offset o && mT P n f.type a && Nat.beq (P.cellsOf f.type) a.size && mF P n fs (o + a.size) b
  | _, _, _, _ => false
end

section
variable {H : Type} {enc : TypeId × Value → H} {P : Program} {w : World} {base : Nat} {spare : Nat → Bool} {held : Bool}

theorem lt_of_cell {a : Addr} {v : Value} (h : w.cell? a = some v) : a.block < w.heap.size := by
  unfold World.cell? at h
  by_cases hb : a.block < w.heap.size
  · exact hb
  · rw [Array.getElem?_eq_none (by omega)] at h
    cases h

abbrev old (w : World) : Nat → Prop := fun b => b < w.heap.size

/-- What the cells of an argument hold: the generator's words. -/
def OpenOk (w : World) (τ : Ty) (cs : List Value) : Prop := ∃ d, rd w (old w) τ d cs ∧ wfD τ d

theorem open_all : ∀ (n : Nat), (∀ (t : Nat) (τ : Ty) (fuel : Nat) (cs : List Value) (x : DataW H × List MemPlace), mT P n t τ = true → DataW.trod enc P w base spare held fuel t cs = some x → OpenOk w τ cs) ∧
    (∀ (fs : List Field) (o : Nat) (τ : Ty) (cs : List Value), mF P n fs o τ = true → cs.length = o + τ.size →
      (∀ f ∈ fs, ∃ fuel x, DataW.trod enc P w base spare held fuel f.type ((cs.drop f.offset).take (P.cellsOf f.type)) = some x) → OpenOk w τ (cs.drop o) ∧ τ.isAgg = true) := by
  intro n
  induction n with
  | zero => exact ⟨fun t τ fuel cs x h => by simp [mT] at h, fun fs o τ cs h => by simp [mF] at h⟩
  | succ n ih =>
    obtain ⟨ihT, ihF⟩ := ih
    constructor
    · intro t τ fuel cs x h hx
      unfold mT at h
      split at h
      · rename_i k hk
        rw [decide_eq_true_eq] at h
        subst h
        obtain ⟨m, rfl, _, hw⟩ := DataW.trod_int hk hx
        exact ⟨.i m, rfl, m, rfl, hw⟩
      · rename_i hk
        rw [decide_eq_true_eq] at h
        subst h
        obtain ⟨v, rfl, _⟩ := DataW.trod_bool hk hx
        exact ⟨.b v, rfl, v, rfl⟩
      · rename_i hk
        rw [decide_eq_true_eq] at h
        subst h
        obtain ⟨v, rfl, _, hw⟩ := DataW.trod_string hk hx
        exact ⟨.s v, rfl, v, rfl, hw⟩
      · rename_i e hk
        split at h
        · rename_i et
          simp only [Bool.and_eq_true, decide_eq_true_eq] at h
          obtain ⟨⟨h1, h2⟩, h3⟩ := h
          replace h2 := Nat.eq_of_beq_eq_true h2
          rcases open_slice hk hx with ⟨rfl, _⟩ | ⟨a, len, cap, m, q, Dd, Pl, rfl, hb, hl, hm, hmm, _, hel⟩
          · refine ⟨.l [] true, ⟨none, 0, rfl, rfl, fun _ => rfl, Nat.le_refl _, fun i x hx => by cases hx⟩, [], true, rfl, by simp, fun _ => rfl, by simp⟩
          · have hlm : len ≤ m := by rw [hmm]; split <;> omega
            have hsp : 0 < len → a.spot = none := by
              intro hi
              obtain ⟨cs', h4, _⟩ := hel 0 (by omega)
              rw [h2] at h4
              obtain ⟨_, hlen, hcell⟩ := World.cells?_some h4
              have hc0 := hcell 0 h3
              rw [List.getElem?_eq_getElem (by omega)] at hc0
              simpa [Addr.add] using World.cell?_spot hc0
            have each : ∀ i, i < len → ∃ d : D, wfD et d ∧ ∃ cells, a.spot = none ∧ a.block < w.heap.size ∧ cells.length = et.size ∧ rd w (old w) et d cells ∧ lies w a.block (a.off + i * et.size) cells := by
              intro i hi
              obtain ⟨cs', h4, h5⟩ := hel i (by omega)
              rw [h2] at h4
              obtain ⟨_, hlen, hcell⟩ := World.cells?_some h4
              obtain ⟨d, hd, hw⟩ := ihT e et _ cs' _ h1 h5
              have hs := hsp (by omega)
              have hab : ∀ j, a.add j = ⟨a.block, a.off + j, none⟩ := by
                intro j
                obtain ⟨b, off, sp⟩ := a
                simp only at hs
                subst hs
                unfold Addr.add
                split
                · rename_i hj
                  subst hj
                  rfl
                · rfl
              refine ⟨d, hw, cs', hs, ?_, hlen, hd, fun j v hv => ?_⟩
              · have hc0 := hcell 0 h3
                rw [List.getElem?_eq_getElem (by omega), add_add, hab] at hc0
                have := lt_of_cell hc0
                exact this
              · have hj : j < et.size := by
                  have := (List.getElem?_eq_some_iff.mp hv).1
                  omega
                have h7 := hcell j hj
                rw [add_add, hab, hv] at h7
                rw [show a.off + i * et.size + j = a.off + (i * et.size + j) by omega]
                exact h7
            haveI : Inhabited D := ⟨.u⟩
            obtain ⟨g, hg⟩ := choose_lt each
            have hlen : ((List.range len).map g).length = len := by simp
            refine ⟨.l ((List.range len).map g) false, ⟨some a, cap, by simp [D.toL], rfl, fun h => (by cases h), by simpa [D.toL] using hl, fun i x hx => ?_⟩, _, false, rfl, by simp; omega, fun h => (by cases h), fun x hx => ?_⟩
            · simp only [D.toL, List.getElem?_map, Option.map_eq_some_iff] at hx
              obtain ⟨j, hj, rfl⟩ := hx
              have hil : i < len := by
                have := (List.getElem?_eq_some_iff.mp hj).1
                simpa using this
              rw [List.getElem?_range hil] at hj
              cases hj
              obtain ⟨_, cells, h4, h5, h6, h7, h8⟩ := hg i hil
              exact ⟨a, cells, rfl, h4, h5, h6, h7, h8⟩
            · simp only [List.mem_map, List.mem_range] at hx
              obtain ⟨i, hi, rfl⟩ := hx
              exact (hg i hi).1
        · cases h
      · rename_i fs hk
        simp only [Bool.and_eq_true] at h
        obtain ⟨h1, h2⟩ := h
        replace h2 := Nat.eq_of_beq_eq_true h2
        obtain ⟨xs, m, _, _, hl, hxl, hf⟩ := DataW.trod_struct hk hx
        have := (ihF fs.toList 0 τ cs h1 (by omega) (fun f hfm => by
          obtain ⟨i, hi⟩ := List.getElem?_of_mem hfm
          have hi' : fs[i]? = some f := by simpa using hi
          have h3 := hf i f hi'
          have hlt : i < xs.length := by
            rw [hxl]
            exact (Array.getElem?_eq_some_iff.mp hi').1
          rw [List.getElem?_eq_getElem hlt] at h3
          exact ⟨m, _, h3⟩)).1
        simpa using this
      · cases h
    · intro fs o τ cs h hlen hf
      cases fs with
      | nil =>
        cases τ <;> simp [mF] at h
        refine ⟨⟨.u, ?_, rfl⟩, rfl⟩
        show cs.drop _ = []
        rw [List.drop_eq_nil_iff]
        simp [Ty.size] at hlen
        omega
      | cons f fs' =>
        cases τ with
        | pair a b =>
          simp only [mF, Bool.and_eq_true] at h
          obtain ⟨⟨⟨h1, h2⟩, h3⟩, h4⟩ := h
          replace h1 := Nat.eq_of_beq_eq_true h1
          replace h3 := Nat.eq_of_beq_eq_true h3
          obtain ⟨fuel, x, hx⟩ := hf f (List.mem_cons_self ..)
          rw [h1, h3] at hx
          obtain ⟨d1, hd1, hw1⟩ := ihT _ _ _ _ _ h2 hx
          simp only [Ty.size] at hlen
          obtain ⟨⟨d2, hd2, hw2⟩, _⟩ := ihF fs' (o + a.size) b cs h4 (by omega) (fun g hg => hf g (List.mem_cons_of_mem _ hg))
          refine ⟨⟨.p d1 d2, ⟨(cs.drop o).take a.size, cs.drop (o + a.size), ?_, ?_, hd1, hd2⟩, d1, d2, rfl, hw1, hw2⟩, rfl⟩
          · rw [← List.drop_drop, List.take_append_drop]
          · rw [List.length_take, List.length_drop]
            omega
        | _ => simp [mF] at h

theorem open_ty {n t fuel : Nat} {τ : Ty} {cs : List Value} {x : DataW H × List MemPlace} (hm : mT P n t τ = true) (h : DataW.trod enc P w base spare held fuel t cs = some x) : OpenOk w τ cs := (open_all n).1 t τ fuel cs x hm h

/-- One argument. -/
theorem open_arg {n t : Nat} {τ : Ty} {v : Value} {r : Reach} {b0 : Nat} {d : DataW H} {ps : List MemPlace} (hm : mT P n t τ = true) (hv : Value.okWide P w r b0 t v) (h : DataW.Trod enc P w base spare held t v d ps) :
    ∃ cs x, v = mkV τ cs ∧ rd w (old w) τ x cs ∧ wfD τ x := by
  obtain ⟨fuel, h⟩ := h
  obtain ⟨x, h1, h2⟩ := open_ty hm h
  refine ⟨_, x, ?_, h1, h2⟩
  cases n with
  | zero => simp [mT] at hm
  | succ n =>
    unfold mT at hm
    split at hm
    · rename_i k hk
      rw [decide_eq_true_eq] at hm
      subst hm
      obtain ⟨m, rfl⟩ := okWide_int hk hv
      rfl
    · rename_i hk
      rw [decide_eq_true_eq] at hm
      subst hm
      obtain ⟨m, rfl⟩ := okWide_bool hk hv
      rfl
    · rename_i hk
      rw [decide_eq_true_eq] at hm
      subst hm
      obtain ⟨m, rfl⟩ := okWide_string hk hv
      rfl
    · rename_i e hk
      obtain ⟨a, len, cap, rfl⟩ := okWide_slice hk hv
      split at hm
      · rfl
      · cases hm
    · rename_i fs hk
      obtain ⟨cs, rfl, _⟩ := okWide_struct hk hv
      cases τ <;> simp [wfD] at h2 <;> first
        | rfl
        | (obtain ⟨_, _, rfl⟩ := h1; simp [mF] at hm; cases n <;> simp [mF] at hm)
        | (simp only [Bool.and_eq_true] at hm; have h3 := hm.1; cases n <;> simp [mF] at h3; done)
        | (simp only [Bool.and_eq_true] at hm; have h3 := hm.1; cases n with
            | zero => simp [mF] at h3
            | succ n => unfold mF at h3; split at h3 <;> simp_all)
    · cases hm

def mAll (P : Program) (n : Nat) : List Nat → List (PM × Ty) → Bool
  | [], [] => true
  | t :: ts, (m, τ) :: ms => decide (m = .bor) && mT P n t τ && mAll P n ts ms
  | _, _ => false

/-- What the arguments of a call hold. -/
def wfAll : List (PM × Ty) → List D → Prop
  | [], [] => True
  | (_, τ) :: ms, d :: ds => wfD τ d ∧ wfAll ms ds
  | _, _ => False

/-- All arguments: each is only read. -/
theorem open_args {n : Nat} : ∀ {ts : List Nat} {ms : List (PM × Ty)} {vs : List Value} {ds : List (DataW H)} {ps : List MemPlace} {r : Reach} {b0 : Nat}, mAll P n ts ms = true → (∀ (j : Nat) t v, ts[j]? = some t → vs[j]? = some v → Value.okWide P w r b0 t v) →
    DataW.TrodAll enc P w base spare held ts vs ds ps → ∃ xs, wfAll ms xs ∧ ArgsOk w (old w) (fun _ => none) ms vs xs
  | [], [], vs, ds, ps, _, _, _, _, h => by
    obtain ⟨rfl, rfl, rfl⟩ := trodAll_nil h
    exact ⟨[], trivial, rfl, rfl, fun i m v d hm => by simp at hm⟩
  | [], _ :: _, _, _, _, _, _, hm, _, _ => by simp [mAll] at hm
  | _ :: _, [], _, _, _, _, _, hm, _, _ => by simp [mAll] at hm
  | t :: ts, (m, τ) :: ms, vs, ds, ps, r, b0, hm, hv, h => by
    obtain ⟨v, vs1, d, ds1, a, b, rfl, rfl, rfl, h1, h2⟩ := trodAll_cons h
    simp only [mAll, Bool.and_eq_true, decide_eq_true_eq] at hm
    obtain ⟨⟨rfl, hm1⟩, hm2⟩ := hm
    obtain ⟨cs, x, e1, r1, w1⟩ := open_arg hm1 (hv 0 t v rfl rfl) h1
    obtain ⟨xs, w2, A⟩ := open_args hm2 (fun j t v hj hv' => hv (j + 1) t v (by simpa using hj) (by simpa using hv')) h2
    refine ⟨x :: xs, ⟨w1, w2⟩, by simp [A.lenV], by simp [A.lenD], fun i m' v' d' hm' hv' hd' => ?_⟩
    cases i with
    | zero =>
      simp only [List.getElem?_cons_zero, Option.some.injEq] at hm' hv' hd'
      subst hm'; subst hv'; subst hd'
      exact ⟨cs, e1, fun _ => r1, fun h => absurd rfl h⟩
    | succ i =>
      simp only [List.getElem?_cons_succ] at hm' hv' hd'
      obtain ⟨cs', e', f', g'⟩ := A.each i m' v' d' hm' hv' hd'
      refine ⟨cs', e', f', fun hne => absurd ?_ hne⟩
      have hmb : ∀ {ts : List Nat} {ms : List (PM × Ty)}, mAll P n ts ms = true → ∀ q ∈ ms, q.1 = .bor := by
        intro ts ms
        induction ms generalizing ts with
        | nil => simp
        | cons p ms ih =>
          intro h q hq
          cases ts with
          | nil => simp [mAll] at h
          | cons t ts =>
            obtain ⟨p1, p2⟩ := p
            simp only [mAll, Bool.and_eq_true, decide_eq_true_eq] at h
            rcases List.mem_cons.mp hq with rfl | hq
            · exact h.1.1
            · exact ih h.2 q hq
      exact hmb hm2 m' (List.mem_of_getElem? hm')
end

/-- A law that holds for whatever arguments, called. -/
theorem call_true {P : Program} {S : Sg} {g n : Nat} {w : World} {ts : List Nat} {H : Type} {enc : TypeId × Value → H} {base : Nat} {spare : Nat → Bool} {held : Bool} {vs : List Value} {ds : List (DataW H)} {ps : List MemPlace} {r : Reach} {b0 : Nat}
    (hS : ∀ xs, wfAll S.ps xs → Sat P S g xs [.b true]) (hr : S.rs = [.bool]) (hm : mAll P n ts S.ps = true) (hv : ∀ (j : Nat) t v, ts[j]? = some t → vs[j]? = some v → Value.okWide P w r b0 t v)
    (h : DataW.TrodAll enc P w base spare held ts vs ds ps) :
    Calls P g vs.toArray w fun e w' => e = .returned (.bool true) ∧ Go.RowKit.Below w.heap.size w w' ∧ ∀ a, w'.frozen? a = w.frozen? a := by
  obtain ⟨xs, hw, A⟩ := open_args hm hv h
  refine (hS xs hw w (old w) (fun _ => none) vs (fun b hb => ⟨hb, rfl⟩) (fun b i hb => by cases hb) A).mono fun e w' ⟨o', rvs, he, Q⟩ => ?_
  have hres := Q.res
  rw [hr] at hres
  obtain ⟨l1, l2, each⟩ := hres
  match rvs, l1 with
  | [v], _ =>
    obtain ⟨cs, e1, r1⟩ := each 0 .bool v (.b true) rfl rfl rfl
    subst he; subst e1
    refine ⟨?_, ⟨Q.os, Q.tape, Q.output, Q.grow, fun k hk => Q.frame k hk rfl⟩, Q.thaw⟩
    change cs = _ at r1
    subst r1
    rfl
end Go.Pi
