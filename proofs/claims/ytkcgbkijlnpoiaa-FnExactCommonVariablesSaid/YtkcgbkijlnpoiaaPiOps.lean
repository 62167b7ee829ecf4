/- Each operation does what the generator says: the ones that only compute. -/
import Derived.Test.YtkcgbkijlnpoiaaPiRel
import Derived.Laws.Entries
import Derived.Laws.Cells
import Derived.Laws.Rows
import Derived.Laws.CopyRow
namespace Go.Pi

/-- The cells of a type's zero value. -/
def Ty.zeros : Ty → List Value
  | .int k => [.int k 0]
  | .bool => [.bool false]
  | .str => [.string ⟨#[]⟩]
  | .pair a b => a.zeros ++ b.zeros
  | .sl _ _ => [.slice none 0 0]
  | _ => []

/-- Zero values of these types are known. -/
def Ty.plainZ : Ty → Bool
  | .int _ | .bool | .str | .unit => true
  | .pair a b => a.plainZ && b.plainZ
  | .sl _ _ => true
  | _ => false

/-- What the table says of a type is so. -/
def tiOk (P : Program) (t : Nat) : TI → Prop
  | .none => True
  | .base τ => ∃ i, P.info? t = some i ∧ i.size = 1 ∧ τ.plainZ = true ∧ i.zero = some (mkV τ τ.zeros) ∧ match τ with
    | .int k => P.underlying t = some (.int k)
    | .bool => P.underlying t = some .bool
    | .str => P.underlying t = some .string
    | _ => False
  | .slice e bytes τ => ∃ i j, P.info? t = some i ∧ i.size = 1 ∧ P.underlying t = some (.slice e) ∧ i.zero = some (.slice none 0 0) ∧ P.info? e = some j ∧ j.size = τ.size ∧ j.bytes = bytes ∧
      τ.plainZ = true ∧ j.zero = some (mkV τ τ.zeros) ∧ τ.mem = true
  | .struct fs τ => ∃ i gs, P.info? t = some i ∧ P.underlying t = some (.struct gs) ∧ i.size = τ.size ∧ τ.plainZ = true ∧ τ.isAgg = true ∧ i.zero = some (mkV τ τ.zeros) ∧
      gs.toList.map (fun g => (g.offset, g.type)) = fs ∧ (∀ g ∈ gs.toList, g.name ≠ "_") ∧ P.stoodInHeld t = false ∧ τ.mem = true

def TOk (P : Program) (T : Nat → TI) : Prop := ∀ t, tiOk P t (T t)

def Own (ow : Nat → Option Nat) (b : Nat) : Prop := ∃ s, ow b = some s

theorem eval_tmp (a : Act) (s : Nat) : a.eval (.tmp s) = tmOf a s := rfl

theorem const_look {T : Nat → TI} {ty : Nat} {v : Value} {t : Ty} {d : D} (h : constEnt T ty v = some (t, d)) (w : World) (S X : Nat → Prop) :
    ∃ cs, v = mkV t cs ∧ look w S X t d cs ∧ rep w S t X d cs := by
  unfold constEnt at h
  split at h <;> first | (simp only [Option.some.injEq, Prod.mk.injEq] at h; obtain ⟨rfl, rfl⟩ := h; exact ⟨[_], rfl, rfl, rfl⟩) | (simp only [Option.some.injEq, Prod.mk.injEq] at h; obtain ⟨rfl, rfl⟩ := h; exact ⟨[_], rfl, trivial, trivial⟩) | skip
  · split at h
    · simp only [Option.some.injEq, Prod.mk.injEq] at h
      obtain ⟨rfl, rfl⟩ := h
      exact ⟨[.slice none 0 0], rfl, ⟨none, 0, rfl, rfl, fun _ => rfl, Nat.le_refl _, fun i x hx => by simp [D.toL] at hx⟩, .inl ⟨rfl, rfl, rfl⟩⟩
    · cases h
  · cases h

theorem view_look {C : Ctx} {T : Nat → TI} {F : Fr} {ow : Nat → Option Nat} {a : Act} {w : World} {x : Operand} {ty : Nat} {t : Ty} {d : D} (R : Rel C F ow a w)
    (h : view T ty F x = some (t, d)) : ∃ cs, a.eval x = mkV t cs ∧ look w (Stb C ow w) (Own ow) t d cs := by
  unfold view at h
  cases he : ev T ty F x with
  | none => rw [he] at h; cases h
  | some e =>
    rw [he] at h
    cases x with
    | global g => cases he
    | func f =>
      simp only [ev, Option.some.injEq] at he
      subst he
      simp only [Option.some.injEq, Prod.mk.injEq] at h
      obtain ⟨rfl, rfl⟩ := h
      exact ⟨[.func (.func f) #[] #[]], rfl, [], rfl, rfl⟩
    | const v =>
      simp only [ev] at he
      cases hc : constEnt T ty v with
      | none => rw [hc] at he; cases he
      | some q =>
        rw [hc] at he
        simp only [Option.map_some, Option.some.injEq] at he
        subst he
        simp only [Option.some.injEq, Prod.mk.injEq] at h
        obtain ⟨rfl, rfl⟩ := h
        obtain ⟨cs, h1, h2, _⟩ := const_look hc w (Stb C ow w) (Own ow)
        exact ⟨cs, h1, h2⟩
    | tmp s =>
      have h0 := R.ents s e he
      cases e with
      | val t' d' =>
        simp only [Option.some.injEq, Prod.mk.injEq] at h
        obtain ⟨rfl, rfl⟩ := h
        obtain ⟨cs, e1, h1⟩ := h0
        exact ⟨cs, e1, rep_look _ _ _ _ _ (fun b hb => ⟨_, hb⟩) h1⟩
      | pk t' d' r π =>
        simp only [Option.some.injEq, Prod.mk.injEq] at h
        obtain ⟨rfl, rfl⟩ := h
        obtain ⟨cs, e1, h1, _⟩ := h0
        exact ⟨cs, e1, look_mono (fun b hb => ⟨hb, rfl⟩) (fun b hb => ⟨⟨_, hb⟩, rfl⟩) _ _ _ h1⟩
      | pt => cases h
      | hd => cases h

section scal
variable {C : Ctx} {T : Nat → TI} {F : Fr} {ow : Nat → Option Nat} {a : Act} {w : World} {x : Operand} {ty : Nat} {d : D}
theorem view_int {k : IntKind} (R : Rel C F ow a w) (h : view T ty F x = some (.int k, d)) : a.eval x = .int k d.toI := by
  obtain ⟨cs, h1, h2⟩ := view_look R h; rw [h1]; have : cs = [.int k d.toI] := h2; rw [this]; rfl
theorem view_bool (R : Rel C F ow a w) (h : view T ty F x = some (.bool, d)) : a.eval x = .bool d.toB := by
  obtain ⟨cs, h1, h2⟩ := view_look R h; rw [h1]; have : cs = [.bool d.toB] := h2; rw [this]; rfl
theorem view_str (R : Rel C F ow a w) (h : view T ty F x = some (.str, d)) : a.eval x = .string d.toS := by
  obtain ⟨cs, h1, h2⟩ := view_look R h; rw [h1]; have : cs = [.string d.toS] := h2; rw [this]; rfl
theorem look_sl {S X : Nat → Prop} {o : Bool} {e : Ty} {cs : List Value} (h : look w S X (.sl o e) d cs) : ∃ A cap, cs = [.slice A d.toL.length cap] ∧ d.toZ = A.isNone ∧ (A = none → cap = 0) ∧ d.toL.length ≤ cap := by
  cases o
  · obtain ⟨A, cap, e1, e2, e3, e4, _⟩ := h; exact ⟨A, cap, e1, e2, e3, e4⟩
  · obtain ⟨A, cap, e1, e2, e3, e4, _⟩ := h; exact ⟨A, cap, e1, e2, e3, e4⟩
theorem view_sl {o : Bool} {e : Ty} (R : Rel C F ow a w) (h : view T ty F x = some (.sl o e, d)) :
    ∃ A cap, a.eval x = .slice A d.toL.length cap ∧ d.toZ = A.isNone ∧ (A = none → cap = 0) ∧ d.toL.length ≤ cap := by
  obtain ⟨cs, h1, h2⟩ := view_look R h
  obtain ⟨A, cap, e1, e2, e3, e4⟩ := look_sl h2
  exact ⟨A, cap, by rw [h1, e1]; rfl, e2, e3, e4⟩
end scal

/-- An operation gives a value. -/
def OpOk (P : Program) (C : Ctx) (o : Oper) (a : Act) (w : World) (F : Fr) (e : Ent) : Prop :=
  ∃ v w', (execOp a.eval o).run P w = .ok (.value v) w' ∧ Left C F e v a w'

theorem Left.of_rd {C : Ctx} {F : Fr} {ow : Nat → Option Nat} {a : Act} {w : World} {t : Ty} {d : D} {v : Value} {cs : List Value} (R : Rel C F ow a w) (ho : t.hasOwn = false)
    (hv : v = mkV t cs) (h : rd w (Stb C ow w) t d cs) : Left C F (.val t d) v a w :=
  ⟨ow, R, ⟨cs, hv, rep_of_rd _ _ _ _ ho h⟩, fun r hr => by cases hr⟩
theorem Left.int {C : Ctx} {F : Fr} {ow : Nat → Option Nat} {a : Act} {w : World} (k : IntKind) (n : Int) (R : Rel C F ow a w) : Left C F (.val (.int k) (.i n)) (.int k n) a w :=
  Left.of_rd R rfl rfl (cs := [.int k n]) rfl
theorem Left.bool {C : Ctx} {F : Fr} {ow : Nat → Option Nat} {a : Act} {w : World} (n : Bool) (R : Rel C F ow a w) : Left C F (.val .bool (.b n)) (.bool n) a w :=
  Left.of_rd R rfl rfl (cs := [.bool n]) rfl
theorem Left.str {C : Ctx} {F : Fr} {ow : Nat → Option Nat} {a : Act} {w : World} (n : ByteArray) (R : Rel C F ow a w) : Left C F (.val .str (.s n)) (.string n) a w :=
  Left.of_rd R rfl rfl (cs := [.string n]) rfl

theorem guard_some {b : Bool} (h : guard' b = some ()) : b = true := by cases b <;> first | rfl | cases h
theorem bind_guard {α : Type} {b : Bool} {k : Unit → Option α} {r : α} (h : (guard' b).bind k = some r) : b = true ∧ k () = some r := by
  cases b
  · cases h
  · exact ⟨rfl, h⟩

/-! ### moves -/

theorem take_left {C : Ctx} {A : Ann} {F F' : Fr} {ow : Nat → Option Nat} {a : Act} {w : World} {s : Nat} {t : Ty} {d : D} (R : Rel C F ow a w) (hA : A.prot = C.prot)
    (h : F.take A s = some (F', t, d)) : Left C F' (.val t d) (tmOf a s) a w := by
  obtain ⟨_, _, _, R', h5⟩ := R.take hA h
  exact ⟨_, R', h5, fun r hr => by cases hr⟩

theorem freeze_left {C : Ctx} {A : Ann} {F F' : Fr} {ow : Nat → Option Nat} {a : Act} {w : World} {s q : Nat} {t : Ty} {d : D} (R : Rel C F ow a w) (hA : A.prot = C.prot)
    (h : F.freeze A s = some F') (hq : (∃ t' d', F q = some (.val t' d') ∧ q = s ∧ t = t' ∧ d = d') ∨ ∃ π, F q = some (.pk t d s π)) : Left C F' (.val t.frz d) (tmOf a q) a w := by
  obtain ⟨R', _, hst⟩ := R.freeze hA h
  refine ⟨_, R', ?_, fun r hr => by cases hr⟩
  rcases hq with ⟨t', d', hF, rfl, rfl, rfl⟩ | ⟨π, hF⟩
  · obtain ⟨cs, e1, h1⟩ := R.ents _ _ hF
    exact ⟨cs, by rw [mkV_frz]; exact e1, rep_frz (fun b h => hst b (.inl h)) (fun b h => hst b (.inr h)) h1⟩
  · obtain ⟨cs, e1, h1, _⟩ := R.ents _ _ hF
    exact ⟨cs, by rw [mkV_frz]; exact e1, look_frz (fun b h => hst b (.inl h)) (fun b h => hst b (.inr h)) h1⟩

theorem ev_left {C : Ctx} {T : Nat → TI} {F : Fr} {ow : Nat → Option Nat} {a : Act} {w : World} {x : Operand} {ty : Nat} {e : Ent} (R : Rel C F ow a w)
    (h : ev T ty F x = some e) (hx : ∀ s, x = .tmp s → match e with | .val t _ => t.hasOwn = false | _ => True) : Left C F e (a.eval x) a w := by
  cases x with
  | global g => cases h
  | func f =>
    simp only [ev, Option.some.injEq] at h; subst h
    exact Left.of_rd R rfl (cs := [.func (.func f) #[] #[]]) rfl ⟨[], rfl, rfl⟩
  | const v =>
    simp only [ev] at h
    cases hc : constEnt T ty v with
    | none => rw [hc] at h; cases h
    | some q =>
      rw [hc] at h
      simp only [Option.map_some, Option.some.injEq] at h
      subst h
      obtain ⟨cs, h1, _, h2⟩ := const_look hc w (Stb C ow w) (fun b => ow b = some C.n)
      exact ⟨ow, R, ⟨cs, h1, h2⟩, fun r hr => by cases hr⟩
  | tmp s =>
    have h0 := R.ents s e h
    have h1 := hx s rfl
    cases e with
    | val t d =>
      obtain ⟨cs, e1, h2⟩ := h0
      exact Left.of_rd R h1 e1 (rd_of_rep h1 h2)
    | pk t d r π => exact ⟨ow, R, h0, fun r' hr => by cases hr; exact R.root s _ r h rfl⟩
    | pt t d r π => exact ⟨ow, R, h0, fun r' hr => by cases hr; exact R.root s _ r h rfl⟩
    | hd d => exact ⟨ow, R, h0, fun r' hr => by cases hr⟩

theorem Rel.header {C : Ctx} {G : Fr} {ow : Nat → Option Nat} {a : Act} {w : World} {s cap : Nat} {B : Option Addr} {d : D} (R : Rel C G ow a w) (hv : tmOf a s = .slice B d.toL.length cap) (hs : s < C.n) :
    Rel C (fun x => bif Nat.beq x s then some (.hd d) else G x) ow a w := by
  have split : ∀ q e, (bif Nat.beq q s then some (Ent.hd d) else G q) = some e → (q = s ∧ e = .hd d) ∨ G q = some e := by
    intro q e hq
    cases hqs : Nat.beq q s with
    | true => rw [hqs] at hq; simp only [cond_true, Option.some.injEq] at hq; exact .inl ⟨Nat.eq_of_beq_eq_true hqs, hq.symm⟩
    | false => rw [hqs] at hq; exact .inr hq
  refine { R with ents := fun q e hq => ?_, root := fun q e r hq hr => ?_, lt := fun q e hq => ?_ }
  · rcases split q e hq with ⟨rfl, rfl⟩ | hq
    · exact ⟨B, cap, hv⟩
    · exact R.ents q e hq
  · rcases split q e hq with ⟨rfl, rfl⟩ | hq
    · cases hr
    · exact R.root q e r hq hr
  · rcases split q e hq with ⟨rfl, rfl⟩ | hq
    · exact hs
    · exact R.lt q e hq

theorem moveE_ok {C : Ctx} {T : Nat → TI} {A : Ann} {F F1 : Fr} {ow : Nat → Option Nat} {a : Act} {w : World} {x : Operand} {ty an : Nat} {e : Ent} (R : Rel C F ow a w) (hA : A.prot = C.prot)
    (h : moveE T A ty an F x = some (F1, e)) : Left C F1 e (a.eval x) a w := by
  unfold moveE at h
  rw [Option.bind_eq_some_iff] at h
  obtain ⟨e0, he, h⟩ := h
  cases x with
  | tmp s =>
    simp only at h
    cases e0 with
    | val t d =>
      simp only at h
      cases ho : t.hasOwn with
      | false =>
        rw [ho] at h
        simp only [Option.some.injEq, Prod.mk.injEq] at h
        obtain ⟨rfl, rfl⟩ := h
        exact ev_left R he fun _ _ => ho
      | true =>
        rw [ho] at h
        simp only at h
        split at h
        · simp only [Option.some.injEq, Prod.mk.injEq] at h
          obtain ⟨rfl, rfl⟩ := h
          obtain ⟨cs, e1, h1⟩ := R.ents s _ he
          exact ⟨ow, R, ⟨cs, e1, rep_look _ _ _ _ _ (fun b hb => hb) h1, fun σ hσ => by cases hσ; exact ⟨fun _ => rfl, fun h => absurd rfl h⟩⟩, fun r hr => by cases hr; exact R.lt s _ he⟩
        · simp only [Option.map_eq_some_iff, Prod.mk.injEq] at h
          obtain ⟨q, hq, rfl, rfl⟩ := h
          exact take_left R hA hq
        · simp only [Option.map_eq_some_iff, Prod.mk.injEq] at h
          obtain ⟨F', hF', rfl, rfl⟩ := h
          exact freeze_left R hA hF' (.inl ⟨t, d, he, rfl, rfl, rfl⟩)
        · split at h
          · rename_i o1 e1
            simp only [Option.map_eq_some_iff, Prod.mk.injEq] at h
            obtain ⟨⟨G, t1, d1⟩, hq, rfl, rfl⟩ := h
            obtain ⟨ow', R', hv', hr'⟩ := take_left R hA hq
            obtain ⟨cs, k1, k2⟩ := R.ents s _ he
            obtain ⟨B, cap, k3, _⟩ := look_sl (rep_look (.sl o1 e1) _ (fun b => ow b = some s) _ _ (fun _ h => h) k2)
            have hs := R.lt s _ he
            exact ⟨ow', R'.header (by rw [k1, k3]; rfl) hs, hv', hr'⟩
          · cases h
    | hd d =>
      simp only [Option.some.injEq, Prod.mk.injEq] at h
      obtain ⟨rfl, rfl⟩ := h
      exact ev_left R he fun _ _ => trivial
    | pk t d r π =>
      have same : ∀ {G : Fr} {e : Ent}, some (F, Ent.pk t d r π) = some (G, e) → Left C G e (a.eval (.tmp s)) a w := by
        intro G e h
        simp only [Option.some.injEq, Prod.mk.injEq] at h
        obtain ⟨rfl, rfl⟩ := h
        exact ev_left R he fun _ _ => trivial
      have frz : ∀ {G : Fr} {e : Ent}, (F.freeze A r).map (fun F' => (F', Ent.val t.frz d)) = some (G, e) → Left C G e (a.eval (.tmp s)) a w := by
        intro G e h
        simp only [Option.map_eq_some_iff, Prod.mk.injEq] at h
        obtain ⟨F', hF', rfl, rfl⟩ := h
        exact freeze_left R hA hF' (.inr ⟨π, he⟩)
      split at h
      · cases ‹Ent.pk t d r π = _›
      · rename_i hh
        cases hh
        split at h
        · exact same h
        · simp only [Option.map_eq_some_iff, Prod.mk.injEq] at h
          obtain ⟨q, hq, rfl, rfl⟩ := h
          have h0 := R.ents s _ he
          obtain ⟨cs, e1, h1, h2⟩ := h0
          rw [eval_tmp, (h2 [] rfl).1 rfl]
          exact take_left R hA hq
        · exact frz h
      · rename_i hh
        cases hh
        split at h
        · exact frz h
        · exact same h
      · cases ‹Ent.pk t d r π = _›
      · cases ‹Ent.pk t d r π = _›
    | pt t d r π =>
      simp only [Option.some.injEq, Prod.mk.injEq] at h
      obtain ⟨rfl, rfl⟩ := h
      exact ev_left R he fun _ _ => trivial
  | const v =>
    simp only [Option.some.injEq, Prod.mk.injEq] at h
    obtain ⟨rfl, rfl⟩ := h
    exact ev_left R he fun s hs => by cases hs
  | func f =>
    simp only [Option.some.injEq, Prod.mk.injEq] at h
    obtain ⟨rfl, rfl⟩ := h
    exact ev_left R he fun s hs => by cases hs
  | global g => cases he

end Go.Pi
