/- A part of a walk: what ForgetClassically and WeakenClassically return, in the program and in the reference. -/
import Derived.Test.YtkcgbkijlnpoiaaForget1
namespace Go.Pi.ForgetVc
open Go Go.Pi Go.Proofs Go.Pi.TidyVc

/-- A formula with g in the place of variable v. -/
def sub (v : Int) (g : Fm) : Fm → Fm
  | .lf n => if n.1 = 0 ∧ n.2 = v then g else .lf n
  | .nd k a b => .nd k (sub v g a) (sub v g b)

def inR (l : List N) : Prop := ∀ n ∈ l, n.1 = 0 → 0 ≤ n.2 ∧ n.2 ≤ 5

theorem sub_wf {v : Int} {g : Fm} (hg : g.wf) : ∀ f : Fm, f.wf → (sub v g f).wf
  | .lf n, h => by unfold sub; split; exact hg; exact h
  | .nd k a b, h => ⟨h.1, sub_wf hg a h.2.1, sub_wf hg b h.2.2⟩
theorem sub_ok {v : Int} {g : Fm} (hg : g.ok) : ∀ f : Fm, f.ok → (sub v g f).ok
  | .lf n, h => by unfold sub; split; exact hg; exact h
  | .nd k a b, h => ⟨sub_ok hg a h.1, sub_ok hg b h.2⟩

theorem img_bnd {v : Int} {b : List N} {n : N} (hv : 0 ≤ v) (hv2 : v ≤ 5) (h : n.1 = 0 → 0 ≤ n.2 ∧ n.2 ≤ 5) : img (bnd v b) n = if n.1 = 0 ∧ n.2 = v then b else [n] := by
  unfold img
  by_cases h0 : n.1 = 0
  · obtain ⟨h1, h2⟩ := h h0
    rw [if_pos h0, List.getD_eq_getElem?_getD]
    unfold bnd
    rw [List.getElem?_set, vars_len]
    by_cases hn : n.2 = v
    · rw [if_pos (by rw [hn]), if_pos (by omega), if_pos ⟨h0, hn⟩]
      rfl
    · rw [if_neg (by omega), if_neg (fun h => hn h.2)]
      obtain ⟨n1, n2⟩ := n
      simp only at h0 h1 h2
      subst h0
      obtain ⟨m, rfl⟩ : ∃ m : Nat, n2 = m := ⟨n2.toNat, by omega⟩
      have hm : m < 6 := by omega
      simp [vars, List.getElem?_range hm]
  · rw [if_neg h0, if_neg (fun h => h0 h.1)]

theorem sub_enc {v : Int} {g : Fm} (hv : 0 ≤ v) (hv2 : v ≤ 5) : ∀ f : Fm, f.wf → inR f.enc → f.enc.flatMap (img (bnd v g.enc)) = (sub v g f).enc
  | .lf n, _, h => by
    simp only [Fm.enc, List.flatMap_cons, List.flatMap_nil, List.append_nil]
    rw [img_bnd hv hv2 (h n (by simp [Fm.enc]))]
    unfold sub
    split <;> simp [Fm.enc]
  | .nd k a b, w, h => by
    have hk : k ≠ 0 := by have := w.1; omega
    have e1 := sub_enc (g := g) hv hv2 a w.2.1 (fun n hn => h n (by simp [Fm.enc, hn]))
    have e2 := sub_enc (g := g) hv hv2 b w.2.2 (fun n hn => h n (by simp [Fm.enc, hn]))
    simp only [Fm.enc, List.flatMap_cons, List.flatMap_append, e1, e2, sub]
    rw [img_bnd hv hv2 (fun h => absurd h hk), if_neg (fun h => hk h.1)]
    rfl

theorem isF_inR {l : List N} (h : isF l = true) : inR l := by
  unfold isF at h
  simp only [Bool.and_eq_true, List.all_eq_true] at h
  intro n hn h0
  have := h.1.2 n hn
  unfold okNode at this
  rw [if_pos h0] at this
  simpa using this

def Tf : Fm := .nd 4 (.lf (1, 0)) (.lf (1, 0))
def Ff : Fm := .lf (1, 0)

theorem img3 {v : Int} {b : List N} (hb : b.length ≤ 3) (hv : 0 ≤ v) (hv2 : v ≤ 5) {l : List N} (h : inR l) : ∀ n ∈ l, (img (bnd v b) n).length ≤ 3 := by
  intro n hn
  rw [img_bnd hv hv2 (h n hn)]
  split
  · exact hb
  · simp

theorem inR_len {v : Int} {b : List N} {l : List N} (h : inR l) : ∀ n ∈ l, n.1 = 0 → 0 ≤ n.2 ∧ n.2 < (bnd v b).length := by
  intro n hn h0
  have := h n hn h0
  rw [bnd_len]
  omega

theorem s133 (l : List N) (qs : List (List N × Bool)) (z y : Bool) (hl : l.length < 1073741824) (hq : ∀ n ∈ l, n.1 = 0 → 0 ≤ n.2 ∧ n.2 < qs.length) (h3 : ∀ n ∈ l, (img qs n).length ≤ 3) :
    Sat Try.prog S133 133 [eL l z, .l (qs.map eQ) y] [eL (l.flatMap (img qs)) (l.flatMap (img qs)).isEmpty] := v133 (by
  unfold eL
  rw [← r133]
  exact ⟨.p (.l (qs.map eQ) y) .u, e163 (v163 (by rw [← r163])), _, e172 (s172 l z qs y hl hq h3), rfl⟩)

theorem s86 (f g : Fm) (v : Int) (hv : 0 ≤ v) (hv2 : v ≤ 5) (w : f.wf) (hr : inR f.enc) (hl : f.enc.length < 1073741824) (hg : g.enc.length ≤ 3) :
    Sat Try.prog S86 86 [eL f.enc false, .i v, eL g.enc false] [eL (sub v g f).enc false] := v86 (by
  unfold eL
  rw [← r86]
  have h := s133 f.enc (bnd v g.enc) false false hl (inR_len hr) (img3 hg hv hv2 hr)
  rw [sub_enc hv hv2 f w hr] at h
  have hne : (sub v g f).enc.isEmpty = false := by
    have := (sub v g f).pos
    cases hh : (sub v g f).enc with
    | nil => rw [hh] at this; simp at this
    | cons a b => rfl
  rw [hne] at h
  exact ⟨_, e134 (s134 v g.enc hv hv2), _, e133 h, rfl⟩)

theorem s81' (f g : Fm) (v : Int) (z : Bool) (hv : 0 ≤ v) (hv2 : v ≤ 5) (w : f.wf) (hr : inR f.enc) (hl : f.enc.length < 1073741824) (hg : g.enc.length ≤ 3) :
    Sat Try.prog S81 81 [eL f.enc z, .l ((bnd v g.enc).map eQ) false] [eL (sub v g f).enc false] := by
  have h := s81 f.enc z (bnd v g.enc) false hl (inR_len hr) (img3 hg hv hv2 hr)
  rw [sub_enc hv hv2 f w hr] at h
  exact h

theorem sub_len {v : Int} {g : Fm} (hg : g.enc.length ≤ 3) : ∀ f : Fm, (sub v g f).enc.length ≤ 3 * f.enc.length
  | .lf n => by
    unfold sub
    split
    · simp [Fm.enc]; omega
    · simp [Fm.enc]
  | .nd k a b => by
    have h1 := sub_len (v := v) hg a
    have h2 := sub_len (v := v) hg b
    simp only [sub, Fm.enc, List.length_cons, List.length_append]
    omega

/-- What is made of a formula. -/
def madeL (l : List N) : List N := if l.length > 40 then [] else l
def madeC (l : List N) : Int := if l.length > 40 then 3 else 0
theorem s83 (l : List N) : Sat Try.prog S83 83 [eL l false] [eL (madeL l) (decide (l.length > 40)), .i (madeC l)] := v83 (by
  unfold eL
  rw [← r83]
  unfold madeL madeC
  refine selp (fun h => ?_) (fun h => ?_)
  · have h : l.length > 40 := by simp at h; omega
    simp [h]
  · have h : ¬ l.length > 40 := by simp at h; omega
    simp [h])
theorem s85 (l : List N) : Sat Try.prog S85 85 [eL l false] [eL (madeL l) (decide (l.length > 40)), .i (madeC l)] := v85 (by
  unfold eL
  rw [← r85]
  unfold madeL madeC
  refine selp (fun h => ?_) (fun h => ?_)
  · have h : l.length > 40 := by simp at h; omega
    simp [h]
  · have h : ¬ l.length > 40 := by simp at h; omega
    simp [h])
theorem madeL_le (l : List N) : (madeL l).length ≤ 40 := by unfold madeL; split; simp; omega

/-- Both answer the same. -/
theorem both (k : Int) (hk : k = 2 ∨ k = 3 ∨ k = 4) (l : List N) (v : Int) (hl : l.length < 4294967296) : ∃ (r : List N) (y : Bool) (c : Int), r.length ≤ 40 ∧
    (∀ z, Sat Try.prog S41 41 [.i k, eL l z, .i v] [eL r y, .i c]) ∧ Sat Try.prog S42 42 [eL l false, .i v, .i k] [eL r y, .i c] := by
  have p34 := fun z => e34 (s34 l z hl)
  have p35 := fun z => e35 (s35 l z hl)
  have p38 := e38 (s38 l false false hl)
  have p80 := e80 (s80 v 0 5)
  have p84 := e84 (s84 v)
  by_cases h1 : isF l = true
  · rw [h1] at p38
    simp only [h1] at p34
    by_cases h2 : plainL l = true
    · have h2' := h2
      unfold plainL at h2'
      simp only [h2'] at p35
      rw [h2] at p38
      by_cases h3 : 0 ≤ v ∧ v ≤ 5
      · have hb : (decide (0 ≤ v) && decide (v ≤ 5)) = true := by simp [h3]
        rw [hb] at p80 p84
        obtain ⟨f, w, o, e, h40⟩ := isF_enc h1 h2
        have hr := isF_inR h1
        subst e
        have wT : Tf.wf := by refine ⟨.inr (.inr rfl), ?_, ?_⟩ <;> simp [Fm.wf]
        have wF : Ff.wf := by simp [Ff, Fm.wf]
        have oT : Tf.ok := ⟨fun _ => rfl, fun _ => rfl⟩
        have oF : Ff.ok := fun _ => rfl
        have lT := sub_len (v := v) (g := Tf) (by simp [Tf, Fm.enc]) f
        have lF := sub_len (v := v) (g := Ff) (by simp [Ff, Fm.enc]) f
        have wN : (Fm.nd k (sub v Tf f) (sub v Ff f)).wf := ⟨hk, sub_wf wT f w, sub_wf wF f w⟩
        have oN : (Fm.nd k (sub v Tf f) (sub v Ff f)).ok := ⟨sub_ok oT f o, sub_ok oF f o⟩
        have hN : (Fm.nd k (sub v Tf f) (sub v Ff f)).enc.length < 1073741824 := by
          simp only [Fm.enc, List.length_cons, List.length_append]
          omega
        refine ⟨_, decide ((tidyS (Fm.nd k (sub v Tf f) (sub v Ff f))).length > 40), madeC (tidyS (Fm.nd k (sub v Tf f) (sub v Ff f))), madeL_le (tidyS (Fm.nd k (sub v Tf f) (sub v Ff f))), fun z => v41 ?_, v42 ?_⟩
        · unfold eL
          rw [← r41]
          refine ⟨_, p34 z, selp (fun h => by cases h) (fun _ => ⟨_, p35 z, selp (fun h => by cases h) (fun _ => ⟨_, p80, selp (fun h => by cases h) (fun _ => ?_)⟩)⟩)⟩
          refine ⟨_, e61 s61, _, e82 (s82 v Tf.enc h3.1 h3.2 (by simp [Tf, Fm.enc])), _, e81 (s81' f Tf v z h3.1 h3.2 w hr (by omega) (by simp [Tf, Fm.enc])), _, e65 s65, _, e82 (s82 v Ff.enc h3.1 h3.2 (by simp [Ff, Fm.enc])),
            _, e81 (s81' f Ff v z h3.1 h3.2 w hr (by omega) (by simp [Ff, Fm.enc])), _, e66 (s66 k _ false _ false (by omega) (by omega)), _, e36 (s36 (.nd k (sub v Tf f) (sub v Ff f)) false wN hN), _, _, e83 (s83 _), rfl⟩
        · unfold eL
          rw [← r42]
          refine ⟨_, p38, selp (fun h => by cases h) (fun _ => ⟨_, p84, selp (fun h => by cases h) (fun _ => ?_)⟩)⟩
          refine ⟨_, e77 s77, _, e86 (s86 f Tf v h3.1 h3.2 w hr (by omega) (by simp [Tf, Fm.enc])), _, e87 s87, _, e86 (s86 f Ff v h3.1 h3.2 w hr (by omega) (by simp [Ff, Fm.enc])),
            _, e79 (s79 k _ false _ false (by omega) (by omega)), _, e39 (s39 (.nd k (sub v Tf f) (sub v Ff f)) wN oN hN), _, _, e85 (s85 _), rfl⟩
      · have hb : (decide (0 ≤ v) && decide (v ≤ 5)) = false := by simp; omega
        rw [hb] at p80 p84
        refine ⟨[], true, 2, by simp, fun z => v41 ?_, v42 ?_⟩
        · unfold eL
          rw [← r41]
          exact ⟨_, p34 z, selp (fun h => by cases h) (fun _ => ⟨_, p35 z, selp (fun h => by cases h) (fun _ => ⟨_, p80, selp (fun _ => rfl) (fun h => by cases h)⟩)⟩)⟩
        · unfold eL
          rw [← r42]
          exact ⟨_, p38, selp (fun h => by cases h) (fun _ => ⟨_, p84, selp (fun _ => rfl) (fun h => by cases h)⟩)⟩
    · have h2' : (l.all fun n => n.1 != 5 && n.1 != 6) = false := by
        cases hc : (l.all fun n => n.1 != 5 && n.1 != 6) with
        | true => exact absurd hc h2
        | false => rfl
      simp only [h2'] at p35
      rw [if_pos rfl, if_neg h2] at p38
      refine ⟨[], true, 5, by simp, fun z => v41 ?_, v42 ?_⟩
      · unfold eL
        rw [← r41]
        exact ⟨_, p34 z, selp (fun h => by cases h) (fun _ => ⟨_, p35 z, selp (fun _ => rfl) (fun h => by cases h)⟩)⟩
      · unfold eL
        rw [← r42]
        exact ⟨_, p38, selp (fun _ => rfl) (fun h => by cases h)⟩
  · have h1' : isF l = false := by cases hc : isF l with | true => exact absurd hc h1 | false => rfl
    simp only [h1'] at p34
    rw [if_neg h1] at p38
    refine ⟨[], true, 1, by simp, fun z => v41 ?_, v42 ?_⟩
    · unfold eL
      rw [← r41]
      exact ⟨_, p34 z, selp (fun _ => rfl) (fun h => by cases h)⟩
    · unfold eL
      rw [← r42]
      exact ⟨_, p38, selp (fun _ => rfl) (fun h => by cases h)⟩

theorem s4 (l : List N) (z : Bool) (v : Int) (hl : l.length ≤ 9223372036854775807) : Sat Try.prog S4 4 [eL l z, .i v] [.b true] := v4 (by
  unfold eL
  rw [← r4]
  have h8 := s8 l z 1048576 (by omega) (by omega) hl
  refine ⟨_, e8 h8, ?_⟩
  by_cases hb : (1048576 : Int) < l.length
  · rw [if_pos hb]
    exact selp (fun _ => rfl) (fun h => by simp [toI_i] at h)
  · rw [if_neg hb]
    refine selp (fun _ => rfl) (fun _ => ?_)
    have hl : l.length < 4294967296 := by omega
    obtain ⟨r, y, c, hr, hs, hi⟩ := both 3 (.inr (.inl rfl)) l v hl
    have q15 : E.sat 15 [] [eL l false, .i v] [eL r y, .i c] := e15 (v15 (by unfold eL; rw [← r15]; exact ⟨_, _, e41 (hs false), rfl⟩))
    have q16 : E.sat 16 [] [eL l false, .i v] [eL r y, .i c] := e16 (v16 (by unfold eL; rw [← r16]; exact ⟨_, _, e42 hi, rfl⟩))
    have q12 : ∀ (a : List N) (za zb : Bool), a.length < 4294967296 → E.sat 12 [] [eL a za, eL a zb] [.b true] := fun a za zb ha => by
      have := s12 a a za zb ha
      rw [decide_eq_true rfl] at this
      exact e12 this
    have m1 := s13 l false 1 (by omega) (by omega) hl
    have m2 := s13 r y 1 (by omega) (by omega) (by omega)
    have hd := s14 r.length 1 y (by omega) (by omega) (by omega)
    refine ⟨_, e10 (s10 l z hl), _, _, q15, _, e10 (s10 l z hl), _, _, q16, _, q12 r y y (by omega), selp (fun _ => selp (fun h => by simp at h) (fun _ => ?_)) (fun h => by simp [toB_b] at h)⟩
    refine ⟨_, e10 (s10 l z hl), _, q12 l false false hl, selp (fun h => by simp [toB_b] at h) (fun _ => ?_)⟩
    have n1 : decide ((1 + 2 * (l.length : Int)) < 0) = false := decide_eq_false (by omega)
    have n2 : decide ((1 + 2 * (r.length : Int)) < 0) = false := decide_eq_false (by omega)
    refine ⟨_, _, e13 m1, selp (fun _ => ?_) (fun h => by rw [toI_i, n1] at h; cases h)⟩
    refine ⟨_, q12 r y y (by omega), selp (fun _ => selp (fun h => by simp at h) (fun _ => ?_)) (fun h => by simp [toB_b] at h)⟩
    refine ⟨_, _, e13 m2, _, e14 hd, selp (fun h => by rw [toI_i, n2] at h; cases h) (fun _ => selp (fun h => by simp at h) (fun _ => ?_))⟩
    refine ⟨_, e10 (s10 l z hl), _, _, q16, _, q12 r y y (by omega), selp (fun _ => selp (fun h => by simp at h) (fun _ => ?_)) (fun h => by simp [toB_b] at h)⟩
    exact ⟨_, e14 hd, selp (fun h => by rw [toI_i, n2] at h; cases h) (fun _ => selp (fun h => by simp at h) (fun _ => rfl))⟩)

theorem s5 (l : List N) (z : Bool) (v : Int) (hl : l.length ≤ 9223372036854775807) : Sat Try.prog S5 5 [eL l z, .i v] [.b true] := v5 (by
  unfold eL
  rw [← r5]
  have h8 := s8 l z 1048576 (by omega) (by omega) hl
  refine ⟨_, e8 h8, ?_⟩
  by_cases hb : (1048576 : Int) < l.length
  · rw [if_pos hb]
    exact selp (fun _ => rfl) (fun h => by simp [toI_i] at h)
  · rw [if_neg hb]
    refine selp (fun _ => rfl) (fun _ => ?_)
    have hl : l.length < 4294967296 := by omega
    obtain ⟨r, y, c, hr, hs, hi⟩ := both 2 (.inl rfl) l v hl
    have q15 : E.sat 17 [] [eL l false, .i v] [eL r y, .i c] := e17 (v17 (by unfold eL; rw [← r17]; exact ⟨_, _, e41 (hs false), rfl⟩))
    have q16 : E.sat 18 [] [eL l false, .i v] [eL r y, .i c] := e18 (v18 (by unfold eL; rw [← r18]; exact ⟨_, _, e42 hi, rfl⟩))
    have q12 : ∀ (a : List N) (za zb : Bool), a.length < 4294967296 → E.sat 12 [] [eL a za, eL a zb] [.b true] := fun a za zb ha => by
      have := s12 a a za zb ha
      rw [decide_eq_true rfl] at this
      exact e12 this
    have m1 := s13 l false 1 (by omega) (by omega) hl
    have m2 := s13 r y 1 (by omega) (by omega) (by omega)
    have hd := s14 r.length 1 y (by omega) (by omega) (by omega)
    refine ⟨_, e10 (s10 l z hl), _, _, q15, _, e10 (s10 l z hl), _, _, q16, _, q12 r y y (by omega), selp (fun _ => selp (fun h => by simp at h) (fun _ => ?_)) (fun h => by simp [toB_b] at h)⟩
    refine ⟨_, e10 (s10 l z hl), _, q12 l false false hl, selp (fun h => by simp [toB_b] at h) (fun _ => ?_)⟩
    have n1 : decide ((1 + 2 * (l.length : Int)) < 0) = false := decide_eq_false (by omega)
    have n2 : decide ((1 + 2 * (r.length : Int)) < 0) = false := decide_eq_false (by omega)
    refine ⟨_, _, e13 m1, selp (fun _ => ?_) (fun h => by rw [toI_i, n1] at h; cases h)⟩
    refine ⟨_, q12 r y y (by omega), selp (fun _ => selp (fun h => by simp at h) (fun _ => ?_)) (fun h => by simp [toB_b] at h)⟩
    refine ⟨_, _, e13 m2, _, e14 hd, selp (fun h => by rw [toI_i, n2] at h; cases h) (fun _ => selp (fun h => by simp at h) (fun _ => ?_))⟩
    refine ⟨_, e10 (s10 l z hl), _, _, q16, _, q12 r y y (by omega), selp (fun _ => selp (fun h => by simp at h) (fun _ => ?_)) (fun h => by simp [toB_b] at h)⟩
    exact ⟨_, e14 hd, selp (fun h => by rw [toI_i, n2] at h; cases h) (fun _ => selp (fun h => by simp at h) (fun _ => rfl))⟩)
end Go.Pi.ForgetVc
