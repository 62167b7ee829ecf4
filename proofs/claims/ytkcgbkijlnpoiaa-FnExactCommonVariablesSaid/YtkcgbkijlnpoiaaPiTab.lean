/- The tables of one program: its types, its functions' signatures. -/
import Derived.Test.YtkcgbkijlnpoiaaPiSound
namespace Go.Pi

def eqC : List Value → List Value → Bool
  | [], [] => true
  | .int k n :: a, .int k' n' :: b => decide (k = k') && decide (n = n') && eqC a b
  | .bool v :: a, .bool v' :: b => decide (v = v') && eqC a b
  | .string v :: a, .string v' :: b => decide (v.data.toList = v'.data.toList) && eqC a b
  | .slice none 0 0 :: a, .slice none 0 0 :: b => eqC a b
  | _, _ => false

theorem eqC_ok : ∀ (a b : List Value), eqC a b = true → a = b := by
  intro a b
  fun_induction eqC a b with
  | case1 => intro _; rfl
  | case2 k n a k' n' b ih => intro h; simp only [Bool.and_eq_true, decide_eq_true_eq] at h; obtain ⟨⟨rfl, rfl⟩, h⟩ := h; rw [ih h]
  | case3 v a v' b ih => intro h; simp only [Bool.and_eq_true, decide_eq_true_eq] at h; obtain ⟨rfl, h⟩ := h; rw [ih h]
  | case4 v a v' b ih =>
    intro h
    simp only [Bool.and_eq_true, decide_eq_true_eq] at h
    obtain ⟨h1, h⟩ := h
    have : v = v' := by
      obtain ⟨x⟩ := v
      obtain ⟨y⟩ := v'
      congr 1
      exact Array.ext' h1
    rw [ih h, this]
  | case5 a b ih => intro h; rw [ih h]
  | case6 => intro h; cases h

def zeroB (v : Option Value) (τ : Ty) : Bool :=
  match v with
  | some v => match τ.isAgg with
    | true => match v with | .agg cs => eqC cs.toList τ.zeros | _ => false
    | false => eqC [v] τ.zeros
  | none => false

theorem zeroB_ok {v : Option Value} {τ : Ty} (h : zeroB v τ = true) : v = some (mkV τ τ.zeros) := by
  unfold zeroB at h
  split at h
  · split at h
    · rename_i ha
      split at h
      · rename_i cs
        have := eqC_ok _ _ h
        have hc : cs = τ.zeros.toArray := Array.ext' (by simpa using this)
        rw [hc]
        cases τ <;> simp_all [Ty.isAgg, mkV]
      · cases h
    · rename_i v ha
      have := eqC_ok _ _ h
      rw [← this]
      cases τ <;> simp_all [Ty.isAgg, mkV, Ty.zeros]
  · cases h

def tiB (P : Program) (t : Nat) : TI → Bool
  | .none => true
  | .base τ => match P.info? t, P.underlying t with
    | some i, some d => Nat.beq i.size 1 && τ.plainZ && zeroB i.zero τ && (match τ, d with
      | .int k, .int k' => decide (k' = k)
      | .bool, .bool => true
      | .str, .string => true
      | _, _ => false)
    | _, _ => false
  | .slice e bytes τ => match P.info? t, P.underlying t, P.info? e with
    | some i, some (.slice e'), some j => Nat.beq i.size 1 && Nat.beq e' e && zeroB i.zero (.sl true τ) && Nat.beq j.size τ.size && Nat.beq j.bytes bytes && τ.plainZ && zeroB j.zero τ && τ.mem
    | _, _, _ => false
  | .struct fs τ => match P.info? t, P.underlying t with
    | some i, some (.struct gs) => Nat.beq i.size τ.size && τ.plainZ && τ.isAgg && zeroB i.zero τ && decide (gs.toList.map (fun g => (g.offset, g.type)) = fs) && gs.toList.all (fun g => !(g.name == "_")) && !P.stoodInHeld t && τ.mem
    | _, _ => false

theorem tiB_ok {P : Program} {t : Nat} {ti : TI} (h : tiB P t ti = true) : tiOk P t ti := by
  cases ti with
  | none => trivial
  | base τ =>
    simp only [tiB] at h
    split at h
    · rename_i i d hi hd
      simp only [Bool.and_eq_true] at h
      obtain ⟨⟨⟨h1, h2⟩, h3⟩, h4⟩ := h
      refine ⟨i, hi, Nat.eq_of_beq_eq_true h1, h2, zeroB_ok h3, ?_⟩
      cases τ <;> cases d <;> simp_all
    · cases h
  | slice e bytes τ =>
    simp only [tiB] at h
    split at h
    · rename_i i e' j hi hd hj
      simp only [Bool.and_eq_true] at h
      obtain ⟨⟨⟨⟨⟨⟨⟨h1, h2⟩, h3⟩, h4⟩, h5⟩, h6⟩, h7⟩, h8⟩ := h
      exact ⟨i, j, hi, Nat.eq_of_beq_eq_true h1, by rw [hd, Nat.eq_of_beq_eq_true h2], zeroB_ok h3, hj, Nat.eq_of_beq_eq_true h4, Nat.eq_of_beq_eq_true h5, h6, zeroB_ok h7, h8⟩
    · cases h
  | struct fs τ =>
    simp only [tiB] at h
    split at h
    · rename_i i gs hi hd
      simp only [Bool.and_eq_true, Bool.not_eq_true', decide_eq_true_eq, List.all_eq_true] at h
      obtain ⟨⟨⟨⟨⟨⟨⟨h1, h2⟩, h3⟩, h4⟩, h5⟩, h6⟩, h7⟩, h8⟩ := h
      refine ⟨i, gs, hi, hd, Nat.eq_of_beq_eq_true h1, h2, h3, zeroB_ok h4, h5, fun g hg he => ?_, h7, h8⟩
      have := h6 g hg
      rw [he] at this
      simp at this
    · cases h

def lookT : List (Nat × TI) → Nat → TI
  | [], _ => .none
  | (s, ti) :: r, t => bif Nat.beq s t then ti else lookT r t

theorem lookT_ok {P : Program} : ∀ {tab : List (Nat × TI)}, tab.all (fun p => tiB P p.1 p.2) = true → TOk P (lookT tab)
  | [], _, t => trivial
  | (s, ti) :: r, h, t => by
    simp only [List.all_cons, Bool.and_eq_true] at h
    unfold lookT
    cases hb : Nat.beq s t with
    | true => rw [← Nat.eq_of_beq_eq_true hb]; exact tiB_ok h.1
    | false => exact lookT_ok h.2 t

structure SgRow where
  g : Nat
  fns : List Nat
  S : Sg

def eqL : List Nat → List Nat → Bool
  | [], [] => true
  | a :: r, b :: s => Nat.beq a b && eqL r s
  | _, _ => false

def lookS : List SgRow → Nat → List Nat → Option Sg
  | [], _, _ => none
  | x :: r, g, fns => bif Nat.beq x.g g && eqL x.fns fns then some x.S else lookS r g fns

def fnB (P : Program) (g : Nat) : Bool :=
  match P.funcs[g]? with
  | some fn => !(fn.name == "runtime.NumGoroutine") && !fn.body.isNone
  | none => false

theorem lookS_ok {P : Program} : ∀ {tab : List SgRow}, tab.all (fun x => fnB P x.g) = true → ∀ g fns S, lookS tab g fns = some S → ∃ fn, P.funcs[g]? = some fn ∧ (fn.name == "runtime.NumGoroutine") = false ∧ fn.body.isNone = false
  | [], _, g, fns, S, h => by cases h
  | x :: r, ha, g, fns, S, h => by
    simp only [List.all_cons, Bool.and_eq_true] at ha
    unfold lookS at h
    cases hb : Nat.beq x.g g && eqL x.fns fns with
    | true =>
      rw [Bool.and_eq_true] at hb
      have h1 := ha.1
      rw [Nat.eq_of_beq_eq_true hb.1] at h1
      unfold fnB at h1
      split at h1
      · rename_i fn hfn
        simp only [Bool.and_eq_true, Bool.not_eq_true'] at h1
        exact ⟨fn, hfn, h1.1, h1.2⟩
      · cases h1
    | false => rw [hb] at h; exact lookS_ok ha.2 g fns S h

/-- What is known of a program: any contract that holds. -/
def envOf (P : Program) (tab : List (Nat × TI)) (sgs : List SgRow) : Env where
  T := lookT tab
  sg := lookS sgs
  sat g fns xs rs := ∃ S, lookS sgs g fns = some S ∧ Sat P S g xs rs

theorem envOf_ok {P : Program} {tab : List (Nat × TI)} {sgs : List SgRow} (h1 : tab.all (fun p => tiB P p.1 p.2) = true) : EnvOk P (envOf P tab sgs) :=
  ⟨lookT_ok h1, fun _ _ _ _ h => h⟩

theorem envOf_known {P : Program} {tab : List (Nat × TI)} {sgs : List SgRow} (h1 : P.follows .mixedOrders = true) (h2 : sgs.all (fun x => fnB P x.g) = true) : Known P (envOf P tab sgs) :=
  ⟨h1, lookS_ok h2⟩

end Go.Pi
