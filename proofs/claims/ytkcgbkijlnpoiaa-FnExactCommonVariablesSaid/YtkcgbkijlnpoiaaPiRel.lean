/- How the generator's frames stand to the machine's, and what keeps them so. -/
import Derived.Test.YtkcgbkijlnpoiaaPiDefs
namespace Go.Pi

theorem lies_same {w w' : World} {g o : Nat} {cs : List Value} (h : w'.heap[g]? = w.heap[g]?) (hl : lies w g o cs) : lies w' g o cs := by
  intro j v hv
  rw [← hl j v hv]
  simp only [World.cell?, h]

theorem rd_mono {w w' : World} {S S' : Nat → Prop} (h : ∀ b, S b → S' b ∧ w'.heap[b]? = w.heap[b]?) : ∀ (t : Ty) (d : D) (cs : List Value), rd w S t d cs → rd w' S' t d cs
  | .int _, _, _, r => r
  | .bool, _, _, r => r
  | .str, _, _, r => r
  | .unit, _, _, r => r
  | .pair a b, d, cs, ⟨c1, c2, e, hn, h1, h2⟩ => ⟨c1, c2, e, hn, rd_mono h a _ _ h1, rd_mono h b _ _ h2⟩
  | .sl _ e, d, cs, ⟨A, cap, e1, e2, e3, e4, h1⟩ => ⟨A, cap, e1, e2, e3, e4, fun i x hx => by
      obtain ⟨a, cells, ha, hs, hS, hn, hr, hl⟩ := h1 i x hx
      exact ⟨a, cells, ha, hs, (h _ hS).1, hn, rd_mono h e _ _ hr, lies_same (h _ hS).2 hl⟩⟩
  | .bx _ e, d, cs, ⟨a, cells, e1, hs, hS, hn, hr, hl⟩ => ⟨a, cells, e1, hs, (h _ hS).1, hn, rd_mono h e _ _ hr, lies_same (h _ hS).2 hl⟩
  | .clo _ c, d, cs, ⟨cv, e1, hr⟩ => ⟨cv, e1, rd_mono h c _ _ hr⟩
  | .tnil, _, _, r => r
  | .tcons a b, d, cs, ⟨c1, c2, e, h1, h2⟩ => ⟨c1, c2, e, rd_mono h a _ _ h1, rd_mono h b _ _ h2⟩
  | .gone, _, _, r => r
  | .hole, _, _, r => r
  | .iter, _, _, r => r

theorem look_mono {w w' : World} {S S' X X' : Nat → Prop} (h : ∀ b, S b → S' b ∧ w'.heap[b]? = w.heap[b]?) (h' : ∀ b, X b → X' b ∧ w'.heap[b]? = w.heap[b]?) :
    ∀ (t : Ty) (d : D) (cs : List Value), look w S X t d cs → look w' S' X' t d cs
  | .int _, _, _, r => r
  | .bool, _, _, r => r
  | .str, _, _, r => r
  | .unit, _, _, r => r
  | .pair a b, d, cs, ⟨c1, c2, e, hn, h1, h2⟩ => ⟨c1, c2, e, hn, look_mono h h' a _ _ h1, look_mono h h' b _ _ h2⟩
  | .sl true e, d, cs, ⟨A, cap, e1, e2, e3, e4, h1⟩ => ⟨A, cap, e1, e2, e3, e4, fun i x hx => by
      obtain ⟨a, cells, ha, hs, hS, hn, hr, hl⟩ := h1 i x hx
      exact ⟨a, cells, ha, hs, (h' _ hS).1, hn, look_mono h h' e _ _ hr, lies_same (h' _ hS).2 hl⟩⟩
  | .bx true e, d, cs, ⟨a, cells, e1, hs, hS, hn, hr, hl⟩ => ⟨a, cells, e1, hs, (h' _ hS).1, hn, look_mono h h' e _ _ hr, lies_same (h' _ hS).2 hl⟩
  | .sl false e, d, cs, r => rd_mono h (.sl false e) d cs r
  | .bx false e, d, cs, r => rd_mono h (.bx false e) d cs r
  | .clo f c, d, cs, r => rd_mono h (.clo f c) d cs r
  | .tnil, _, _, r => r
  | .tcons a b, d, cs, ⟨c1, c2, e, h1, h2⟩ => ⟨c1, c2, e, look_mono h h' a _ _ h1, look_mono h h' b _ _ h2⟩
  | .gone, _, _, r => r
  | .hole, _, _, r => r
  | .iter, _, _, ⟨g, e1, hX, hh⟩ => ⟨g, e1, (h' _ hX).1, (h' _ hX).2.trans hh⟩

theorem rep_mono {w w' : World} {S S' : Nat → Prop} (h : ∀ b, S b → S' b ∧ w'.heap[b]? = w.heap[b]?) :
    ∀ (t : Ty) (O O' : Nat → Prop) (d : D) (cs : List Value), (∀ b, O b → O' b ∧ w'.heap[b]? = w.heap[b]?) → rep w S t O d cs → rep w' S' t O' d cs
  | .int _, _, _, _, _, _, r => r
  | .bool, _, _, _, _, _, r => r
  | .str, _, _, _, _, _, r => r
  | .unit, _, _, _, _, _, r => r
  | .pair a b, O, O', d, cs, h', ⟨c1, c2, f, e, hn, h1, h2⟩ => ⟨c1, c2, f, e, hn, rep_mono h a _ _ _ _ (fun b hb => ⟨⟨(h' b hb.1).1, hb.2⟩, (h' b hb.1).2⟩) h1, rep_mono h b _ _ _ _ (fun b hb => ⟨⟨(h' b hb.1).1, hb.2⟩, (h' b hb.1).2⟩) h2⟩
  | .sl true e, O, O', d, cs, h', r => by
    rcases r with r | ⟨g, o, cap, c, te, e1, e2, hO, hc, hb, hl, f, h1⟩
    · exact .inl r
    · refine .inr ⟨g, o, cap, c, te, e1, e2, (h' g hO).1, by rw [(h' g hO).2]; exact hc, hb, hl, f, fun i x hx => ?_⟩
      obtain ⟨cells, hn, hr, hlie⟩ := h1 i x hx
      exact ⟨cells, hn, rep_mono h e _ _ _ _ (fun b hb => ⟨⟨⟨(h' b hb.1.1).1, hb.1.2⟩, hb.2⟩, (h' b hb.1.1).2⟩) hr, lies_same (h' g hO).2 hlie⟩
  | .bx true e, O, O', d, cs, h', ⟨g, c, te, cells, e1, hO, hc, hz, hn, hr, hl⟩ =>
    ⟨g, c, te, cells, e1, (h' g hO).1, by rw [(h' g hO).2]; exact hc, hz, hn, rep_mono h e _ _ _ _ (fun b hb => ⟨⟨(h' b hb.1).1, hb.2⟩, (h' b hb.1).2⟩) hr, lies_same (h' g hO).2 hl⟩
  | .sl false e, _, _, d, cs, _, r => rd_mono h (.sl false e) d cs r
  | .bx false e, _, _, d, cs, _, r => rd_mono h (.bx false e) d cs r
  | .clo f c, _, _, d, cs, _, r => rd_mono h (.clo f c) d cs r
  | .tnil, _, _, _, _, _, r => r
  | .tcons a b, O, O', d, cs, h', ⟨c1, c2, f, e, h1, h2⟩ => ⟨c1, c2, f, e, rep_mono h a _ _ _ _ (fun b hb => ⟨⟨(h' b hb.1).1, hb.2⟩, (h' b hb.1).2⟩) h1, rep_mono h b _ _ _ _ (fun b hb => ⟨⟨(h' b hb.1).1, hb.2⟩, (h' b hb.1).2⟩) h2⟩
  | .gone, _, _, _, _, _, r => r
  | .hole, _, _, _, _, _, r => r
  | .iter, _, _, _, _, h', ⟨g, e1, hO, hh⟩ => ⟨g, e1, (h' _ hO).1, (h' _ hO).2.trans hh⟩

theorem goL_mono {w w' : World} {X X' : Nat → Prop} (h : ∀ b, X b → X' b ∧ w'.heap[b]? = w.heap[b]?) {g' o' : Nat} : ∀ (π : Path) (g o : Nat), goL w X g' o' g o π → goL w' X' g' o' g o π
  | [], _, _, r => r
  | .fst :: π, _, _, r => goL_mono h π _ _ r
  | .snd _ :: π, _, _, r => goL_mono h π _ _ r
  | .idx _ _ :: π, _, _, ⟨b, n, c, hX, hc, r⟩ => ⟨b, n, c, (h _ hX).1, by rw [← hc]; simp only [World.cell?, (h _ hX).2], goL_mono h π _ _ r⟩
  | .deref :: π, _, _, ⟨b, hX, hc, r⟩ => ⟨b, (h _ hX).1, by rw [← hc]; simp only [World.cell?, (h _ hX).2], goL_mono h π _ _ r⟩

theorem placeL_mono {w w' : World} {X X' : Nat → Prop} (h : ∀ b, X b → X' b ∧ w'.heap[b]? = w.heap[b]?) {v : Value} {g' o' : Nat} : ∀ (π : Path), placeL w X v g' o' π → placeL w' X' v g' o' π
  | .idx _ _ :: π, ⟨b, n, c, e, r⟩ => ⟨b, n, c, e, goL_mono h π _ _ r⟩
  | .deref :: π, ⟨b, e, r⟩ => ⟨b, e, goL_mono h π _ _ r⟩
  | [], r => r.elim
  | .fst :: _, r => r.elim
  | .snd _ :: _, r => r.elim

theorem mkV_frz (t : Ty) (cs : List Value) : mkV t.frz cs = mkV t cs := by cases t <;> rfl
theorem size_frz : ∀ t : Ty, t.frz.size = t.size
  | .pair a b => by simp [Ty.frz, Ty.size, size_frz a, size_frz b]
  | .int _ | .bool | .str | .unit | .sl .. | .bx .. | .clo .. | .tnil | .tcons .. | .gone | .hole | .iter => rfl

/-- What is only read can be read as what is frozen. -/
theorem rd_frz {w : World} {S : Nat → Prop} : ∀ (t : Ty) (d : D) (cs : List Value), rd w S t d cs → rd w S t.frz d cs
  | .int _, _, _, r => r
  | .bool, _, _, r => r
  | .str, _, _, r => r
  | .unit, _, _, r => r
  | .pair a b, d, cs, ⟨c1, c2, e, hn, h1, h2⟩ => ⟨c1, c2, e, by rw [size_frz]; exact hn, rd_frz a _ _ h1, rd_frz b _ _ h2⟩
  | .sl _ e, d, cs, ⟨A, cap, e1, e2, e3, e4, h1⟩ => ⟨A, cap, e1, e2, e3, e4, fun i x hx => by
      obtain ⟨a, cells, ha, hs, hS, hn, hr, hl⟩ := h1 i x hx
      rw [size_frz]
      exact ⟨a, cells, ha, hs, hS, hn, rd_frz e _ _ hr, hl⟩⟩
  | .bx _ e, d, cs, ⟨a, cells, e1, hs, hS, hn, hr, hl⟩ => ⟨a, cells, e1, hs, hS, by rw [size_frz]; exact hn, rd_frz e _ _ hr, hl⟩
  | .clo _ c, d, cs, r => r
  | .tnil, _, _, r => r
  | .tcons a b, d, cs, ⟨c1, c2, e, h1, h2⟩ => ⟨c1, c2, by rw [mkV_frz]; exact e, rd_frz a _ _ h1, rd_frz b _ _ h2⟩
  | .gone, _, _, r => r
  | .hole, _, _, r => r
  | .iter, _, _, r => r

theorem rd_of_frz {w : World} {S : Nat → Prop} : ∀ (t : Ty) (d : D) (cs : List Value), rd w S t.frz d cs → rd w S t d cs
  | .int _, _, _, r => r
  | .bool, _, _, r => r
  | .str, _, _, r => r
  | .unit, _, _, r => r
  | .pair a b, d, cs, ⟨c1, c2, e, hn, h1, h2⟩ => ⟨c1, c2, e, by rw [size_frz] at hn; exact hn, rd_of_frz a _ _ h1, rd_of_frz b _ _ h2⟩
  | .sl _ e, d, cs, ⟨A, cap, e1, e2, e3, e4, h1⟩ => ⟨A, cap, e1, e2, e3, e4, fun i x hx => by
      obtain ⟨a, cells, ha, hs, hS, hn, hr, hl⟩ := h1 i x hx
      rw [size_frz] at hn hl
      exact ⟨a, cells, ha, hs, hS, hn, rd_of_frz e _ _ hr, hl⟩⟩
  | .bx _ e, d, cs, ⟨a, cells, e1, hs, hS, hn, hr, hl⟩ => ⟨a, cells, e1, hs, hS, by rw [size_frz] at hn; exact hn, rd_of_frz e _ _ hr, hl⟩
  | .clo _ c, d, cs, r => r
  | .tnil, _, _, r => r
  | .tcons a b, d, cs, ⟨c1, c2, e, h1, h2⟩ => ⟨c1, c2, by rw [mkV_frz] at e; exact e, rd_of_frz a _ _ h1, rd_of_frz b _ _ h2⟩
  | .gone, _, _, r => r
  | .hole, _, _, r => r
  | .iter, _, _, r => r

theorem rd_of_eq {w : World} {S : Nat → Prop} {t t' : Ty} (h : t.frz = t'.frz) {d : D} {cs : List Value} (r : rd w S t d cs) : rd w S t' d cs := rd_of_frz _ _ _ (h ▸ rd_frz _ _ _ r)

/-- A look is a reading. -/
theorem look_rd {w : World} {S X : Nat → Prop} : ∀ (t : Ty) (d : D) (cs : List Value), look w S X t d cs → rd w (fun b => S b ∨ X b) t d cs
  | .int _, _, _, r => r
  | .bool, _, _, r => r
  | .str, _, _, r => r
  | .unit, _, _, r => r
  | .pair a b, d, cs, ⟨c1, c2, e, hn, h1, h2⟩ => ⟨c1, c2, e, hn, look_rd a _ _ h1, look_rd b _ _ h2⟩
  | .sl true e, d, cs, ⟨A, cap, e1, e2, e3, e4, h1⟩ => ⟨A, cap, e1, e2, e3, e4, fun i x hx => by
      obtain ⟨a, cells, ha, hs, hS, hn, hr, hl⟩ := h1 i x hx
      exact ⟨a, cells, ha, hs, .inr hS, hn, look_rd e _ _ hr, hl⟩⟩
  | .bx true e, d, cs, ⟨a, cells, e1, hs, hS, hn, hr, hl⟩ => ⟨a, cells, e1, hs, .inr hS, hn, look_rd e _ _ hr, hl⟩
  | .sl false e, d, cs, r => rd_mono (fun _ hb => ⟨.inl hb, rfl⟩) (.sl false e) d cs r
  | .bx false e, d, cs, r => rd_mono (fun _ hb => ⟨.inl hb, rfl⟩) (.bx false e) d cs r
  | .clo f c, d, cs, r => rd_mono (fun _ hb => ⟨.inl hb, rfl⟩) (.clo f c) d cs r
  | .tnil, _, _, r => r
  | .tcons a b, d, cs, ⟨c1, c2, e, h1, h2⟩ => ⟨c1, c2, e, look_rd a _ _ h1, look_rd b _ _ h2⟩
  | .gone, _, _, r => r
  | .hole, _, _, r => r
  | .iter, _, _, ⟨g, e1, _, _⟩ => by subst e1; rfl

theorem rd_look {w : World} {S X : Nat → Prop} : ∀ (t : Ty) (d : D) (cs : List Value), t.hasOwn = false → look w S X t d cs → rd w S t d cs
  | .int _, _, _, _, r => r
  | .bool, _, _, _, r => r
  | .str, _, _, _, r => r
  | .unit, _, _, _, r => r
  | .pair a b, d, cs, ho, ⟨c1, c2, e, hn, h1, h2⟩ => by
    simp only [Ty.hasOwn, Bool.or_eq_false_iff] at ho
    exact ⟨c1, c2, e, hn, rd_look a _ _ ho.1 h1, rd_look b _ _ ho.2 h2⟩
  | .sl false e, d, cs, _, r => r
  | .bx false e, d, cs, _, r => r
  | .sl true e, d, cs, ho, _ => by simp [Ty.hasOwn] at ho
  | .bx true e, d, cs, ho, _ => by simp [Ty.hasOwn] at ho
  | .clo f c, d, cs, _, r => r
  | .tnil, _, _, _, r => r
  | .tcons a b, d, cs, ho, ⟨c1, c2, e, h1, h2⟩ => by
    simp only [Ty.hasOwn, Bool.or_eq_false_iff] at ho
    exact ⟨c1, c2, e, rd_look a _ _ ho.1 h1, rd_look b _ _ ho.2 h2⟩
  | .gone, _, _, _, r => r
  | .hole, _, _, _, r => r

/-- What is owned can be looked at. -/
theorem rep_look {w : World} {S : Nat → Prop} : ∀ (t : Ty) (O X : Nat → Prop) (d : D) (cs : List Value), (∀ b, O b → X b) → rep w S t O d cs → look w S X t d cs
  | .int _, _, _, _, _, _, r => r
  | .bool, _, _, _, _, _, r => r
  | .str, _, _, _, _, _, r => r
  | .unit, _, _, _, _, _, r => r
  | .pair a b, O, X, d, cs, h', ⟨c1, c2, f, e, hn, h1, h2⟩ => ⟨c1, c2, e, hn, rep_look a _ X _ _ (fun b hb => h' b hb.1) h1, rep_look b _ X _ _ (fun b hb => h' b hb.1) h2⟩
  | .sl true e, O, X, d, cs, h', r => by
    rcases r with ⟨e1, e2, e3⟩ | ⟨g, o, cap, c, te, e1, e2, hO, hc, hb, hl, f, h1⟩
    · exact ⟨none, 0, by rw [e1, e2]; rfl, by rw [e3]; rfl, fun _ => rfl, by rw [e2]; exact Nat.le_refl _, fun i x hx => by rw [e2] at hx; simp at hx⟩
    · refine ⟨some ⟨g, o, none⟩, cap, e1, by rw [e2]; rfl, (fun h => by cases h), hl, fun i x hx => ?_⟩
      obtain ⟨cells, hn, hr, hlie⟩ := h1 i x hx
      exact ⟨_, cells, rfl, rfl, h' g hO, hn, rep_look e _ X _ _ (fun b hb => h' b hb.1.1) hr, hlie⟩
  | .bx true e, O, X, d, cs, h', ⟨g, c, te, cells, e1, hO, hc, hz, hn, hr, hl⟩ =>
    ⟨⟨g, 0, none⟩, cells, e1, rfl, h' g hO, hn, rep_look e _ X _ _ (fun b hb => h' b hb.1) hr, hl⟩
  | .sl false e, _, _, d, cs, _, r => r
  | .bx false e, _, _, d, cs, _, r => r
  | .clo f c, _, _, d, cs, _, r => r
  | .tnil, _, _, _, _, _, r => r
  | .tcons a b, O, X, d, cs, h', ⟨c1, c2, f, e, h1, h2⟩ => ⟨c1, c2, e, rep_look a _ X _ _ (fun b hb => h' b hb.1) h1, rep_look b _ X _ _ (fun b hb => h' b hb.1) h2⟩
  | .gone, _, _, _, _, _, r => r
  | .hole, _, _, _, _, _, r => r
  | .iter, _, _, _, _, h', ⟨g, e1, hO, hh⟩ => ⟨g, e1, h' _ hO, hh⟩

/-- What owns nothing. -/
theorem rep_of_rd {w : World} {S : Nat → Prop} : ∀ (t : Ty) (O : Nat → Prop) (d : D) (cs : List Value), t.hasOwn = false → rd w S t d cs → rep w S t O d cs
  | .int _, _, _, _, _, r => r
  | .bool, _, _, _, _, r => r
  | .str, _, _, _, _, r => r
  | .unit, _, _, _, _, r => r
  | .pair a b, O, d, cs, ho, ⟨c1, c2, e, hn, h1, h2⟩ => by
    simp only [Ty.hasOwn, Bool.or_eq_false_iff] at ho
    exact ⟨c1, c2, fun _ => true, e, hn, rep_of_rd a _ _ _ ho.1 h1, rep_of_rd b _ _ _ ho.2 h2⟩
  | .sl false e, _, d, cs, _, r => r
  | .bx false e, _, d, cs, _, r => r
  | .sl true e, _, d, cs, ho, _ => by simp [Ty.hasOwn] at ho
  | .bx true e, _, d, cs, ho, _ => by simp [Ty.hasOwn] at ho
  | .clo f c, _, d, cs, _, r => r
  | .tnil, _, _, _, _, r => r
  | .tcons a b, O, d, cs, ho, ⟨c1, c2, e, h1, h2⟩ => by
    simp only [Ty.hasOwn, Bool.or_eq_false_iff] at ho
    exact ⟨c1, c2, fun _ => true, e, rep_of_rd a _ _ _ ho.1 h1, rep_of_rd b _ _ _ ho.2 h2⟩
  | .gone, _, _, _, _, r => r
  | .hole, _, _, _, _, r => r

theorem rd_of_rep {w : World} {S O : Nat → Prop} {t : Ty} {d : D} {cs : List Value} (ho : t.hasOwn = false) (h : rep w S t O d cs) : rd w S t d cs :=
  rd_look t d cs ho (rep_look t O O d cs (fun _ h => h) h)

theorem hasOwn_frz : ∀ t : Ty, t.frz.hasOwn = false
  | .pair a b | .tcons a b => by simp [Ty.frz, Ty.hasOwn, hasOwn_frz a, hasOwn_frz b]
  | .int _ | .bool | .str | .unit | .sl .. | .bx .. | .clo .. | .tnil | .gone | .hole | .iter => rfl

/-- Frozen: what is owned, or looked at, is only read from now on. -/
theorem rep_frz {w : World} {S O S' O' : Nat → Prop} (hS : ∀ b, S b → S' b) (hO : ∀ b, O b → S' b) {t : Ty} {d : D} {cs : List Value} (h : rep w S t O d cs) : rep w S' t.frz O' d cs :=
  rep_of_rd _ _ _ _ (hasOwn_frz t) (rd_frz _ _ _ (rd_mono (fun b hb => ⟨hb.elim (hS b) (hO b), rfl⟩) _ _ _ (look_rd _ _ _ (rep_look t O O d cs (fun _ h => h) h))))

theorem look_frz {w : World} {S X S' O' : Nat → Prop} (hS : ∀ b, S b → S' b) (hO : ∀ b, X b → S' b) {t : Ty} {d : D} {cs : List Value} (h : look w S X t d cs) : rep w S' t.frz O' d cs :=
  rep_of_rd _ _ _ _ (hasOwn_frz t) (rd_frz _ _ _ (rd_mono (fun b hb => ⟨hb.elim (hS b) (hO b), rfl⟩) _ _ _ (look_rd _ _ _ h)))

/-! ### frames -/

/-- What a call begins with: its world; the blocks that it may read; those that it was lent to change; those that it was given for good; its arguments; which of them it changes; how many slots. -/
structure Ctx where
  w0 : World
  st : Nat → Prop
  giv : Nat → Nat → Prop
  tk : Nat → Prop
  arg : Nat → Value
  prot : List Nat
  n : Nat

/-- Blocks that were lent. -/
def Ctx.lent (C : Ctx) (b : Nat) : Prop := ∃ s, s ∈ C.prot ∧ C.giv s b

def Stb (C : Ctx) (ow : Nat → Option Nat) (w : World) (b : Nat) : Prop := (C.st b ∨ C.tk b ∨ C.w0.heap.size ≤ b) ∧ b < w.heap.size ∧ ow b = none

/-- An entry tells the truth of the value v of slot s. -/
def EntOk (w : World) (S : Nat → Prop) (ow : Nat → Option Nat) (tm : Nat → Value) (v : Value) (s : Nat) : Ent → Prop
  | .val t d => ∃ cs, v = mkV t cs ∧ rep w S t (fun b => ow b = some s) d cs
  | .pk t d r π => ∃ cs, v = mkV t cs ∧ look w S (fun b => ow b = some r) t d cs ∧
      ∀ σ, π = some σ → (σ = [] → v = tm r) ∧ (σ ≠ [] → ∃ g o, placeL w (fun b => ow b = some r) (tm r) g o σ ∧ ow g = some r ∧ lies w g o cs)
  | .pt t d r π => ∃ g o cs, v = .pointer (some ⟨g, o, none⟩) ∧ ow g = some r ∧ cs.length = t.size ∧ look w S (fun b => ow b = some r) t d cs ∧ lies w g o cs ∧
      ∀ σ, π = some σ → placeL w (fun b => ow b = some r) (tm r) g o σ
  | .hd d => ∃ B cap, v = .slice B d.toL.length cap

def tmOf (a : Act) (s : Nat) : Value := a.tmps.getD s undef

structure Rel (C : Ctx) (F : Fr) (ow : Nat → Option Nat) (a : Act) (w : World) : Prop where
  ents : ∀ s e, F s = some e → EntOk w (Stb C ow w) ow (tmOf a) (tmOf a s) s e
  root : ∀ s e r, F s = some e → e.root = some r → r < C.n
  lt : ∀ s e, F s = some e → s < C.n
  size : a.tmps.size = C.n
  own : ∀ b s, ow b = some s → b < w.heap.size ∧ ((s ∈ C.prot ∧ C.giv s b) ∨ C.tk b ∨ C.w0.heap.size ≤ b)
  frame : ∀ b, b < C.w0.heap.size → ¬ C.lent b → ¬ C.tk b → w.heap[b]? = C.w0.heap[b]?
  grow : C.w0.heap.size ≤ w.heap.size
  os : w.os = C.w0.os
  output : w.output = C.w0.output
  tape : w.tape = C.w0.tape
  thaw : ∀ b, w.frozen? b = C.w0.frozen? b
  defers : a.defers = []
  prot : ∀ s, s ∈ C.prot → tmOf a s = C.arg s
  givtk : ∀ s b, C.giv s b → C.tk b
  protlt : ∀ s, s ∈ C.prot → s < C.n

/-- An entry stays true where its owner's blocks, and what is only read, stay as they are. -/
theorem EntOk.mono {w w' : World} {S S' : Nat → Prop} {ow ow' : Nat → Option Nat} {tm tm' : Nat → Value} {v : Value} {s : Nat} {e : Ent}
    (hS : ∀ b, S b → S' b ∧ w'.heap[b]? = w.heap[b]?)
    (hv : ∀ t d, e = .val t d → ∀ b, ow b = some s → ow' b = some s ∧ w'.heap[b]? = w.heap[b]?)
    (hr : ∀ r, e.root = some r → tm' r = tm r ∧ ∀ b, ow b = some r → ow' b = some r ∧ w'.heap[b]? = w.heap[b]?)
    (h : EntOk w S ow tm v s e) : EntOk w' S' ow' tm' v s e := by
  cases e with
  | val t d =>
    obtain ⟨cs, e1, h1⟩ := h
    exact ⟨cs, e1, rep_mono hS t _ _ _ _ (fun b hb => hv t d rfl b hb) h1⟩
  | pk t d r π =>
    obtain ⟨cs, e1, h1, h2⟩ := h
    obtain ⟨ht, hb⟩ := hr r rfl
    refine ⟨cs, e1, look_mono hS hb t _ _ h1, fun σ hσ => ⟨fun h0 => by rw [ht]; exact (h2 σ hσ).1 h0, fun h0 => ?_⟩⟩
    obtain ⟨g, o, hp, hg, hl⟩ := (h2 σ hσ).2 h0
    exact ⟨g, o, by rw [ht]; exact placeL_mono hb σ hp, (hb g hg).1, lies_same (hb g hg).2 hl⟩
  | pt t d r π =>
    obtain ⟨g, o, cs, e1, hg, hn, h1, hl, h2⟩ := h
    obtain ⟨ht, hb⟩ := hr r rfl
    exact ⟨g, o, cs, e1, (hb g hg).1, hn, look_mono hS hb t _ _ h1, lies_same (hb g hg).2 hl, fun σ hσ => by rw [ht]; exact placeL_mono hb σ (h2 σ hσ)⟩
  | hd d => exact h

theorem clr_some {F : Fr} {d s : Nat} {e : Ent} (h : F.clr d s = some e) : F s = some e ∧ e.root ≠ some d := by
  unfold Fr.clr at h
  cases hF : F s with
  | none => simp [hF] at h
  | some e' =>
    simp only [hF] at h
    cases hr : e'.root with
    | none => simp only [hr] at h; cases h; exact ⟨rfl, by simp [hr]⟩
    | some q =>
      simp only [hr] at h
      cases hq : Nat.beq q d with
      | true => simp [hq] at h
      | false =>
        simp only [hq, cond_false] at h; cases h
        refine ⟨rfl, ?_⟩
        rw [hr]; intro e
        simp only [Option.some.injEq] at e
        subst e
        rw [Nat.beq_refl] at hq; cases hq

theorem drop_some {F : Fr} {d s : Nat} {e : Ent} (h : F.drop d s = some e) : s ≠ d ∧ F s = some e ∧ e.root ≠ some d := by
  unfold Fr.drop at h
  cases hs : Nat.beq s d with
  | true => simp [hs] at h
  | false =>
    simp only [hs, cond_false] at h
    exact ⟨(fun e => by subst e; rw [Nat.beq_refl] at hs; cases hs), clr_some h⟩

theorem put_some {F : Fr} {d s : Nat} {e e' : Ent} (h : F.put d e' s = some e) : (s = d ∧ e = e') ∨ (s ≠ d ∧ F s = some e ∧ e.root ≠ some d) := by
  unfold Fr.put at h
  cases hs : Nat.beq s d with
  | true => simp only [hs, cond_true, Option.some.injEq] at h; exact .inl ⟨Nat.eq_of_beq_eq_true hs, h.symm⟩
  | false =>
    simp only [hs, cond_false] at h
    exact .inr ⟨(fun e => by subst e; rw [Nat.beq_refl] at hs; cases hs), clr_some h⟩

/-- The frame forgets, blocks change hands, the world grows: what is still known stays true. -/
theorem Rel.change {C : Ctx} {F F' : Fr} {ow ow' : Nat → Option Nat} {a a' : Act} {w w' : World} (R : Rel C F ow a w)
    (hF : ∀ s e, F' s = some e → F s = some e)
    (hst : ∀ b, Stb C ow w b → Stb C ow' w' b ∧ w'.heap[b]? = w.heap[b]?)
    (hkeep : ∀ s e, F' s = some e → tmOf a' s = tmOf a s ∧ (∀ t d, e = .val t d → ∀ b, ow b = some s → ow' b = some s ∧ w'.heap[b]? = w.heap[b]?) ∧
      (∀ r, e.root = some r → tmOf a' r = tmOf a r ∧ ∀ b, ow b = some r → ow' b = some r ∧ w'.heap[b]? = w.heap[b]?))
    (hsize : a'.tmps.size = a.tmps.size) (hdef : a'.defers = a.defers) (hprot : ∀ s, s ∈ C.prot → tmOf a' s = tmOf a s)
    (hown : ∀ b s, ow' b = some s → b < w'.heap.size ∧ ((s ∈ C.prot ∧ C.giv s b) ∨ C.tk b ∨ C.w0.heap.size ≤ b))
    (hframe : ∀ b, b < C.w0.heap.size → ¬ C.lent b → ¬ C.tk b → w'.heap[b]? = w.heap[b]?)
    (hgrow : w.heap.size ≤ w'.heap.size) (hos : w'.os = w.os) (hout : w'.output = w.output) (htape : w'.tape = w.tape) (hfz : ∀ b, w'.frozen? b = w.frozen? b := by intro _; rfl) : Rel C F' ow' a' w' where
  ents s e h := by
    obtain ⟨h1, h2, h3⟩ := hkeep s e h
    rw [h1]
    exact EntOk.mono hst h2 h3 (R.ents s e (hF s e h))
  root s e r h hr := R.root s e r (hF s e h) hr
  lt s e h := R.lt s e (hF s e h)
  size := by rw [hsize, R.size]
  own := hown
  frame b h1 h2 h3 := by rw [hframe b h1 h2 h3, R.frame b h1 h2 h3]
  grow := Nat.le_trans R.grow hgrow
  os := by rw [hos, R.os]
  output := by rw [hout, R.output]
  tape := by rw [htape, R.tape]
  thaw b := by rw [hfz, R.thaw]
  defers := by rw [hdef, R.defers]
  prot s h := by rw [hprot s h, R.prot s h]
  givtk := R.givtk
  protlt := R.protlt

/-- The frame forgets. -/
theorem Rel.sub {C : Ctx} {F F' : Fr} {ow : Nat → Option Nat} {a : Act} {w : World} (R : Rel C F ow a w) (hF : ∀ s e, F' s = some e → F s = some e) : Rel C F' ow a w :=
  R.change hF (fun _ h => ⟨h, rfl⟩) (fun _ _ _ => ⟨rfl, fun _ _ _ _ h => ⟨h, rfl⟩, fun _ _ => ⟨rfl, fun _ h => ⟨h, rfl⟩⟩⟩) rfl rfl (fun _ _ => rfl) R.own (fun _ _ _ _ => rfl) (Nat.le_refl _) rfl rfl rfl

/-- Slot s's blocks go to slot q. -/
def give (ow : Nat → Option Nat) (s : Nat) (q : Option Nat) : Nat → Option Nat := fun b => if ow b = some s then q else ow b

theorem give_ne {ow : Nat → Option Nat} {s : Nat} {q : Option Nat} {b r : Nat} (h : ow b = some r) (hne : r ≠ s) : give ow s q b = some r := by
  unfold give; rw [if_neg (by rw [h]; simpa using hne), h]
theorem give_eq {ow : Nat → Option Nat} {s : Nat} {q : Option Nat} {b : Nat} (h : ow b = some s) : give ow s q b = q := by unfold give; rw [if_pos h]
theorem give_none {ow : Nat → Option Nat} {s : Nat} {q : Option Nat} {b : Nat} (h : ow b = none) : give ow s q b = none := by unfold give; rw [if_neg (by simp [h]), h]
theorem give_some {ow : Nat → Option Nat} {s q : Nat} {b r : Nat} (h : give ow s (some q) b = some r) : (ow b = some s ∧ r = q) ∨ (ow b = some r ∧ r ≠ s) := by
  unfold give at h
  by_cases hb : ow b = some s
  · rw [if_pos hb] at h; cases h; exact .inl ⟨hb, rfl⟩
  · rw [if_neg hb] at h; exact .inr ⟨h, fun e => hb (by rw [h, e])⟩
theorem give_some' {ow : Nat → Option Nat} {s : Nat} {b r : Nat} (h : give ow s none b = some r) : ow b = some r ∧ r ≠ s := by
  unfold give at h
  by_cases hb : ow b = some s
  · rw [if_pos hb] at h; cases h
  · rw [if_neg hb] at h; exact ⟨h, fun e => hb (by rw [h, e])⟩

/-- Slot s's value, with what it owns, is held for what comes. -/
theorem Rel.take {C : Ctx} {A : Ann} {F F' : Fr} {ow : Nat → Option Nat} {a : Act} {w : World} {s : Nat} {t : Ty} {d : D} (R : Rel C F ow a w) (hA : A.prot = C.prot)
    (h : F.take A s = some (F', t, d)) :
    F s = some (.val t d) ∧ F' = F.drop s ∧ s ∉ C.prot ∧ Rel C F' (give ow s (some C.n)) a w ∧
      EntOk w (Stb C (give ow s (some C.n)) w) (give ow s (some C.n)) (tmOf a) (tmOf a s) C.n (.val t d) := by
  unfold Fr.take at h
  cases hF : F s with
  | none => simp [hF] at h
  | some e =>
    cases e with
    | pk => simp [hF] at h
    | pt => simp [hF] at h
    | hd => simp [hF] at h
    | val t' d' =>
      simp only [hF] at h
      cases hp : A.prot.contains s with
      | true => rw [hp] at h; simp at h
      | false =>
        rw [hp] at h
        simp only [Option.some.injEq, Prod.mk.injEq] at h
        obtain ⟨rfl, rfl, rfl⟩ := h
        have hnp : s ∉ C.prot := by rw [← hA]; intro hm; rw [List.contains_iff_mem.mpr hm] at hp; cases hp
        have hst : ∀ b, Stb C ow w b → Stb C (give ow s (some C.n)) w b := fun b hb => ⟨hb.1, hb.2.1, give_none hb.2.2⟩
        refine ⟨rfl, rfl, hnp, ?_, ?_⟩
        · refine R.change (fun q e h => (drop_some h).2.1) (fun b hb => ⟨hst b hb, rfl⟩) (fun q e h => ?_) rfl rfl (fun _ _ => rfl) (fun b q hb => ?_) (fun _ _ _ _ => rfl) (Nat.le_refl _) rfl rfl rfl
          · obtain ⟨h1, h2, h3⟩ := drop_some h
            exact ⟨rfl, fun _ _ _ b hb => ⟨give_ne hb h1, rfl⟩, fun r hr => ⟨rfl, fun b hb => ⟨give_ne hb (fun e => h3 (by rw [hr, e])), rfl⟩⟩⟩
          · rcases give_some hb with ⟨h1, h2⟩ | ⟨h1, h2⟩
            · obtain ⟨h3, h4⟩ := R.own b s h1
              exact ⟨h3, .inr (h4.resolve_left fun h => hnp h.1)⟩
            · exact R.own b q h1
        · obtain ⟨cs, e1, h1⟩ := R.ents s _ hF
          exact ⟨cs, e1, rep_mono (fun b hb => ⟨hst b hb, rfl⟩) _ _ _ _ _ (fun b hb => ⟨give_eq hb, rfl⟩) h1⟩

theorem freeze_some {A : Ann} {F F' : Fr} {s : Nat} (h : F.freeze A s = some F') : ∃ t d, F s = some (.val t d) ∧ A.prot.contains s = false ∧
    F' = fun q => bif Nat.beq q s then some (.val t.frz d) else (F q).map (·.frzAt s) := by
  unfold Fr.freeze at h
  cases hF : F s with
  | none => simp [hF] at h
  | some e =>
    cases e with
    | pk => simp [hF] at h
    | pt => simp [hF] at h
    | hd => simp [hF] at h
    | val t' d' =>
      simp only [hF] at h
      cases hp : A.prot.contains s with
      | true => rw [hp] at h; simp at h
      | false => rw [hp] at h; exact ⟨t', d', rfl, rfl, (Option.some.inj h).symm⟩

/-- What a slot owned is only read from now on. -/
theorem Rel.freeze {C : Ctx} {A : Ann} {F F' : Fr} {ow : Nat → Option Nat} {a : Act} {w : World} {s : Nat} (R : Rel C F ow a w) (hA : A.prot = C.prot)
    (h : F.freeze A s = some F') : Rel C F' (give ow s none) a w ∧ s ∉ C.prot ∧
      (∀ b, Stb C ow w b ∨ ow b = some s → Stb C (give ow s none) w b) := by
  obtain ⟨t, d, hF, hp, rfl⟩ := freeze_some h
  have hnp : s ∉ C.prot := by rw [← hA]; intro hm; rw [List.contains_iff_mem.mpr hm] at hp; cases hp
  have hst : ∀ b, Stb C ow w b ∨ ow b = some s → Stb C (give ow s none) w b := by
    rintro b (hb | hb)
    · exact ⟨hb.1, hb.2.1, give_none hb.2.2⟩
    · obtain ⟨h3, h4⟩ := R.own b s hb
      exact ⟨.inr (h4.resolve_left fun h => hnp h.1), h3, give_eq hb⟩
  have key : ∀ q e, (F q).map (·.frzAt s) = some e → q ≠ s → EntOk w (Stb C (give ow s none) w) (give ow s none) (tmOf a) (tmOf a q) q e ∧ (∀ r, e.root = some r → r < C.n) ∧ q < C.n := by
    intro q e h hq
    cases hFq : F q with
    | none => simp [hFq] at h
    | some e0 =>
      simp only [hFq, Option.map_some, Option.some.injEq] at h
      have h0 := R.ents q e0 hFq
      have hlt := R.lt q e0 hFq
      subst h
      cases e0 with
      | val t0 d0 =>
        exact ⟨EntOk.mono (fun b hb => ⟨hst b (.inl hb), rfl⟩) (fun _ _ _ b hb => ⟨give_ne hb hq, rfl⟩) (fun r hr => by cases hr) h0, (fun r hr => by cases hr), hlt⟩
      | hd d0 => exact ⟨h0, (fun r hr => by cases hr), hlt⟩
      | pk t0 d0 r π =>
        have hr0 := R.root q _ r hFq rfl
        unfold Ent.frzAt
        cases hb : Nat.beq r s with
        | true =>
          obtain rfl := Nat.eq_of_beq_eq_true hb
          obtain ⟨cs, e1, h1, _⟩ := h0
          simp only [hb, cond_true]
          exact ⟨⟨cs, by rw [mkV_frz]; exact e1, look_frz (fun b h => hst b (.inl h)) (fun b h => hst b (.inr h)) h1⟩, (fun r hr => by cases hr), hlt⟩
        | false =>
          have hne : r ≠ s := fun e => by subst e; rw [Nat.beq_refl] at hb; cases hb
          simp only [hb, cond_false]
          exact ⟨EntOk.mono (fun b hb => ⟨hst b (.inl hb), rfl⟩) (fun _ _ h => by cases h) (fun r' hr => by cases hr; exact ⟨rfl, fun b hb => ⟨give_ne hb hne, rfl⟩⟩) h0, (fun r' hr => by cases hr; exact hr0), hlt⟩
      | pt t0 d0 r π =>
        have hr0 := R.root q _ r hFq rfl
        unfold Ent.frzAt
        cases hb : Nat.beq r s with
        | true =>
          obtain rfl := Nat.eq_of_beq_eq_true hb
          obtain ⟨g, o, cs, e1, hg, hn, h1, hl, _⟩ := h0
          simp only [hb, cond_true]
          refine ⟨⟨[.pointer (some ⟨g, o, none⟩)], by rw [e1]; rfl, ?_⟩, (fun r hr => by cases hr), hlt⟩
          exact ⟨⟨g, o, none⟩, cs, rfl, rfl, hst g (.inr hg), by rw [size_frz]; exact hn, rd_of_rep (hasOwn_frz _) (look_frz (O' := fun _ => False) (fun b h => hst b (.inl h)) (fun b h => hst b (.inr h)) h1), hl⟩
        | false =>
          have hne : r ≠ s := fun e => by subst e; rw [Nat.beq_refl] at hb; cases hb
          simp only [hb, cond_false]
          exact ⟨EntOk.mono (fun b hb => ⟨hst b (.inl hb), rfl⟩) (fun _ _ h => by cases h) (fun r' hr => by cases hr; exact ⟨rfl, fun b hb => ⟨give_ne hb hne, rfl⟩⟩) h0, (fun r' hr => by cases hr; exact hr0), hlt⟩
  have split : ∀ q e, (bif Nat.beq q s then some (Ent.val t.frz d) else (F q).map (·.frzAt s)) = some e →
      (q = s ∧ e = .val t.frz d) ∨ (q ≠ s ∧ (F q).map (·.frzAt s) = some e) := by
    intro q e h
    cases hb : Nat.beq q s with
    | true => rw [hb] at h; simp only [cond_true, Option.some.injEq] at h; exact .inl ⟨Nat.eq_of_beq_eq_true hb, h.symm⟩
    | false => rw [hb] at h; exact .inr ⟨(fun e => by subst e; rw [Nat.beq_refl] at hb; cases hb), h⟩
  refine ⟨{ R with
      ents := fun q e h => ?_
      root := fun q e r h hr => ?_
      lt := fun q e h => ?_
      own := fun b q hb => ?_ }, hnp, hst⟩
  · rcases split q e h with ⟨rfl, rfl⟩ | ⟨h1, h2⟩
    · obtain ⟨cs, e1, h1⟩ := R.ents _ _ hF
      exact ⟨cs, by rw [mkV_frz]; exact e1, rep_frz (fun b h => hst b (.inl h)) (fun b h => hst b (.inr h)) h1⟩
    · exact (key q e h2 h1).1
  · rcases split q e h with ⟨rfl, rfl⟩ | ⟨h1, h2⟩
    · cases hr
    · exact (key q e h2 h1).2.1 r hr
  · rcases split q e h with ⟨rfl, rfl⟩ | ⟨h1, h2⟩
    · exact R.lt _ _ hF
    · exact (key q e h2 h1).2.2
  · exact R.own b q (give_some' hb).1

/-- What an operation leaves: a frame that is true, and a value that is as its entry tells; what it owns is slot n's, for now. -/
def Left (C : Ctx) (F : Fr) (e : Ent) (v : Value) (a : Act) (w : World) : Prop :=
  ∃ ow, Rel C F ow a w ∧ EntOk w (Stb C ow w) ow (tmOf a) v C.n e ∧ ∀ r, e.root = some r → r < C.n

theorem tmOf_put_ne {a : Act} {d s : Nat} {v : Value} (h : s ≠ d) : tmOf (a.put (some d) v) s = tmOf a s := by
  unfold tmOf Act.put
  simp [Array.getElem?_setIfInBounds_ne (Ne.symm h)]
theorem tmOf_put_eq {a : Act} {d : Nat} {v : Value} (h : d < a.tmps.size) : tmOf (a.put (some d) v) d = v := by
  unfold tmOf Act.put
  simp [h]

theorem putDst_some {A : Ann} {F F' : Fr} {d : Nat} {e : Ent} (h : putDst A F (some d) e = some F') : d ∉ A.prot ∧ d < A.n ∧ e.root ≠ some d ∧ F' = F.put d e := by
  unfold putDst at h
  simp only at h
  cases hp : A.prot.contains d || !Nat.blt d A.n with
  | true => rw [hp] at h; simp at h
  | false =>
    rw [hp] at h
    simp only at h
    rw [Bool.or_eq_false_iff] at hp
    have h1 : d ∉ A.prot := fun hm => by rw [List.contains_iff_mem.mpr hm] at hp; cases hp.1
    have h2 : d < A.n := by have := hp.2; simp [Nat.blt_eq] at this; exact this
    cases hr : e.root with
    | none => rw [hr] at h; simp only [Option.some.injEq] at h; exact ⟨h1, h2, by simp, h.symm⟩
    | some r =>
      rw [hr] at h
      simp only at h
      cases hb : Nat.beq r d with
      | true => rw [hb] at h; simp at h
      | false =>
        rw [hb] at h; simp only [Option.some.injEq] at h
        exact ⟨h1, h2, (fun e => by cases e; rw [Nat.beq_refl] at hb; cases hb), h.symm⟩

/-- The result is laid into its slot. -/
theorem Left.put {C : Ctx} {A : Ann} {F F' : Fr} {e : Ent} {v : Value} {a : Act} {w : World} {dst : Option Nat} (hA : A.prot = C.prot) (hn : A.n = C.n)
    (h : Left C F e v a w) (hp : putDst A F dst e = some F') : ∃ ow, Rel C F' ow (a.put dst v) w := by
  obtain ⟨ow, R, hv, hroot⟩ := h
  cases dst with
  | none =>
    simp only [putDst, Option.some.injEq] at hp
    subst hp
    exact ⟨ow, R⟩
  | some d =>
    obtain ⟨h1, h2, h3, rfl⟩ := putDst_some hp
    rw [hA] at h1; rw [hn] at h2
    have hds : d < a.tmps.size := by rw [R.size]; exact h2
    have hnd : C.n ≠ d := by omega
    let ow' := give (give ow d none) C.n (some d)
    have k1 : ∀ b r, ow b = some r → r ≠ d → r ≠ C.n → ow' b = some r := fun b r hb h1 h2 => give_ne (give_ne hb h1) h2
    have k2 : ∀ b, ow b = some C.n → ow' b = some d := fun b hb => give_eq (give_ne hb hnd)
    have hst : ∀ b, Stb C ow w b → Stb C ow' w b := fun b hb => ⟨hb.1, hb.2.1, give_none (give_none hb.2.2)⟩
    refine ⟨ow', ?_⟩
    have hents : ∀ s e', F.put d e s = some e' → EntOk w (Stb C ow' w) ow' (tmOf (a.put (some d) v)) (tmOf (a.put (some d) v) s) s e' := by
      intro s e' h
      rcases put_some h with ⟨rfl, rfl⟩ | ⟨hs, hF, hr⟩
      · rw [tmOf_put_eq hds]
        cases e' with
        | val t d =>
          obtain ⟨cs, e1, h1⟩ := hv
          exact ⟨cs, e1, rep_mono (fun b hb => ⟨hst b hb, rfl⟩) _ _ _ _ _ (fun b hb => ⟨k2 b hb, rfl⟩) h1⟩
        | hd d => exact hv
        | pk t d r π =>
          have hrn := hroot r rfl
          exact EntOk.mono (fun b hb => ⟨hst b hb, rfl⟩) (fun _ _ h => by cases h) (fun r' hr' => by cases hr'; exact ⟨tmOf_put_ne fun e => h3 (by rw [← e]; rfl), fun b hb => ⟨k1 b _ hb (fun e => h3 (by rw [← e]; rfl)) (by omega), rfl⟩⟩) hv
        | pt t d r π =>
          have hrn := hroot r rfl
          exact EntOk.mono (fun b hb => ⟨hst b hb, rfl⟩) (fun _ _ h => by cases h) (fun r' hr' => by cases hr'; exact ⟨tmOf_put_ne fun e => h3 (by rw [← e]; rfl), fun b hb => ⟨k1 b _ hb (fun e => h3 (by rw [← e]; rfl)) (by omega), rfl⟩⟩) hv
      · rw [tmOf_put_ne hs]
        have hsn := R.lt s e' hF
        refine EntOk.mono (fun b hb => ⟨hst b hb, rfl⟩) (fun _ _ _ b hb => ⟨k1 b s hb hs (by omega), rfl⟩) (fun r hr' => ?_) (R.ents s e' hF)
        have hrn := R.root s e' r hF hr'
        have hrd : r ≠ d := fun e => hr (by rw [hr', e])
        exact ⟨tmOf_put_ne hrd, fun b hb => ⟨k1 b r hb hrd (by omega), rfl⟩⟩
    refine { R with ents := hents, root := ?_, lt := ?_, size := ?_, own := ?_, defers := R.defers, prot := ?_ }
    · intro s e' r h hr
      rcases put_some h with ⟨rfl, rfl⟩ | ⟨hs, hF, _⟩
      · exact hroot r hr
      · exact R.root s e' r hF hr
    · intro s e' h
      rcases put_some h with ⟨rfl, rfl⟩ | ⟨hs, hF, _⟩
      · exact h2
      · exact R.lt s e' hF
    · show (a.tmps.setIfInBounds d v).size = C.n
      rw [Array.size_setIfInBounds]; exact R.size
    · intro b s hb
      rcases give_some hb with ⟨hb1, rfl⟩ | ⟨hb1, hne⟩
      · obtain ⟨hb2, _⟩ := give_some' hb1
        obtain ⟨h4, h5⟩ := R.own b C.n hb2
        refine ⟨h4, .inr (h5.resolve_left fun h => ?_)⟩
        have := R.protlt _ h.1; omega
      · exact R.own b s (give_some' hb1).1
    · intro s hs
      rw [tmOf_put_ne (fun e => h1 (by rw [← e]; exact hs))]
      exact R.prot s hs

end Go.Pi
