/- A part of a walk: Tidy6. -/
import Derived.Test.YtkcgbkijlnpoiaaTidy5
namespace Go.Pi.TidyVc
open Go Go.Pi Go.Proofs

def Fm.ok : Fm → Prop
  | .lf n => n.1 = 1 → n.2 = 0
  | .nd _ a b => a.ok ∧ b.ok

theorem enc_one {f : Fm} {n : N} (h : f.enc = [n]) : f = .lf n := by
  cases f with
  | lf m => simp [Fm.enc] at h; rw [h]
  | nd k a b =>
    have := a.pos
    have h2 := congrArg List.length h
    simp only [Fm.enc, List.length_cons, List.length_append, List.length_nil] at h2
    omega

theorem tidyS_nd (k : Int) (a b : Fm) : tidyS (.nd k a b) = combS k (tidyS a) (tidyS b) := by
  rw [tidyS]
  split
  · rename_i h
    simp only [Fm.enc, Tl, List.cons.injEq, Prod.mk.injEq, and_true] at h
    obtain ⟨rfl, h⟩ := h
    have ha := a.pos
    have hb := b.pos
    have hlen := congrArg List.length h
    simp at hlen
    obtain ⟨x, hx⟩ := List.length_eq_one_iff.mp (show a.enc.length = 1 by omega)
    obtain ⟨y, hy⟩ := List.length_eq_one_iff.mp (show b.enc.length = 1 by omega)
    rw [hx, hy] at h
    simp at h
    obtain ⟨rfl, rfl⟩ := h
    rw [enc_one hx, enc_one hy]
    simp [tidyS, combS]
  · rfl

def good (l : List N) : Prop := ∃ x r, l = x :: r ∧ (x.1 == 1) = decide (l = Fl)

theorem combS_good {k : Int} {x y : List N} (hk : k = 2 ∨ k = 3 ∨ k = 4) (hx : good x) (hy : good y) : good (combS k x y) := by
  have hp : good ((k, 0) :: (x ++ y)) := ⟨(k, 0), x ++ y, rfl, by
    have : (k == 1) = false := by simp; omega
    rw [this]
    have : (k, (0 : Int)) :: (x ++ y) ≠ Fl := by simp [Fl]; omega
    simp [this]⟩
  have ht : good Tl := ⟨_, _, rfl, by simp [Tl, Fl]⟩
  have hf : good Fl := ⟨_, _, rfl, by simp [Fl]⟩
  unfold combS
  repeat' split
  all_goals assumption

theorem tidyS_good : ∀ f : Fm, f.wf → f.ok → good (tidyS f)
  | .lf n, _, h => ⟨n, [], rfl, by
    obtain ⟨a, b⟩ := n
    simp only [Fm.ok] at h
    by_cases h1 : a = 1
    · simp [tidyS, Fl, h1, h h1]
    · simp [tidyS, Fl, h1]⟩
  | .nd k a b, hw, ho => by
    rw [tidyS_nd]
    exact combS_good hw.1 (tidyS_good a hw.2.1 ho.1) (tidyS_good b hw.2.2 ho.2)

theorem q78 (l : List N) (z : Bool) (h : good l) : E.sat 78 [] [eL l z] [.b (decide (l = Fl))] := by
  obtain ⟨x, r, h1, h2⟩ := h
  rw [← h2, h1]
  exact e78 (s78 x r z)
theorem q75 (l : List N) (z : Bool) (hl : l.length < 4294967296) : E.sat 75 [] [eL l z] [.b (decide (l = Tl))] := e75 (s75' l z hl)
theorem q76 (a b : List N) (za zb : Bool) (ha : a.length < 4294967296) : E.sat 76 [] [eL a za, eL b zb] [.b (decide (a = b))] := e76 (s76 a b za zb ha)

theorem s39 : ∀ (f : Fm), f.wf → f.ok → f.enc.length < 1073741824 → Sat Try.prog S39 39 [eL f.enc false] [eL (tidyS f) false]
  | .lf n, hw, _, hl => v39 (by
    have hp : parts n.1 = 0 := by unfold parts; rw [if_neg (by have := hw; unfold Fm.wf at this; omega), if_neg (by have := hw; unfold Fm.wf at this; omega)]
    have hs := s71 n.1
    rw [hp] at hs
    unfold eL
    rw [← r39]
    simp only [Fm.enc, List.map_cons, List.map_nil, List.length_cons, List.length_nil]
    refine ⟨by decide, _, e71 hs, selp (fun _ => ⟨_, e72 (s72 [n] false (by simp) (by simp)), rfl⟩) (fun h => by simp [toI_i] at h)⟩)
  | .nd k a b, hw, ho, hl => v39 (by
    obtain ⟨hk, ha, hb⟩ := hw
    have hp : parts k = 2 := by unfold parts; rw [if_pos hk]
    have hs := s71 k
    rw [hp] at hs
    have hlen : (Fm.nd k a b).enc.length = 1 + a.enc.length + b.enc.length := by simp [Fm.enc]; omega
    have iha := s39 a ha ho.1 (by omega)
    have ihb := s39 b hb ho.2 (by omega)
    have la := tidyS_len a
    have lb := tidyS_len b
    have ga := tidyS_good a ha ho.1
    have gb := tidyS_good b hb ho.2
    have h73 := s73 (Fm.nd k a b).enc false _ (by omega) (by omega) (pe_left k a b ha)
    rw [cut_left] at h73
    have hpr : pe ((Fm.nd k a b).enc.drop (1 + a.enc.length)) 1 = some b.enc.length := by
      have : (Fm.nd k a b).enc.drop (1 + a.enc.length) = b.enc ++ [] := by simp [Fm.enc, Nat.add_comm 1]
      rw [this, pe_enc b [] 0 hb]
      simp [pe]
    have h74 := s74 (Fm.nd k a b).enc false _ _ (by omega) (by omega) (pe_left k a b ha) hpr
    rw [cut_right k a b _ (by omega)] at h74
    have hget : ((Fm.nd k a b).enc.map eN).getD ((0 : Int)).toNat D.u = eN (k, 0) := rfl
    have hpos : 0 ≤ (0 : Int) ∧ (0 : Int) < (((Fm.nd k a b).enc.map eN).length : Int) := by rw [List.length_map]; omega
    rw [tidyS_nd]
    unfold eL
    rw [← r39]
    simp only [hget, fst_eN]
    refine ⟨hpos, _, e71 hs, selp (fun h => by simp [toI_i] at h) (fun _ => ?_)⟩
    refine ⟨_, e73 h73, _, e39 iha, _, e74 h74, _, e39 ihb, ?_⟩
    generalize hX : tidyS a = x at *
    generalize hY : tidyS b = y at *
    refine ⟨fun s => s = [eL (Fm.nd k a b).enc false, eL x false, eL y false] ∧ combS k x y = (k, 0) :: (x ++ y), ⟨hpos, ?_⟩, ?_⟩
    · have hxl : x.length < 4294967296 := by omega
      have hyl : y.length < 4294967296 := by omega
      simp only [toI_i]
      refine selp (fun h2 => ?_) (fun h2 => selp (fun h3 => ?_) (fun h3 => ?_))
      · have h2 : k = 2 := by simpa using h2
        refine ⟨_, q76 x y false false hxl, selp (fun c1 => ⟨_, q75 y false hyl, selp (fun c2 => ⟨_, q78 x false ga, selp (fun c3 => ?_) (fun c3 => ⟨_, q75 x false hxl, selp (fun c4 => ⟨_, q78 y false gb, selp (fun c5 => ?_) (fun c5 => ?_)⟩) (fun c4 => ?_)⟩)⟩) (fun c2 => ?_)⟩) (fun c1 => ?_)⟩
        all_goals (try (simp [toB_b] at c1))
        all_goals (try (simp [toB_b] at c2))
        all_goals (try (simp [toB_b] at c3))
        all_goals (try (simp [toB_b] at c4))
        all_goals (try (simp [toB_b] at c5))
        all_goals (subst k; clear iha ihb ga gb; simp [combS, eL, *])
        all_goals (try (simp [Tl, Fl] at *; done))
        all_goals (try (repeat' split) <;> simp_all [Tl, Fl])
      · have h3 : k = 3 := by simpa using h3
        refine ⟨_, q76 x y false false hxl, selp (fun c1 => ⟨_, q78 y false gb, selp (fun c2 => ⟨_, q75 x false hxl, selp (fun c3 => ?_) (fun c3 => ⟨_, q78 x false ga, selp (fun c4 => ⟨_, q75 y false hyl, selp (fun c5 => ?_) (fun c5 => ?_)⟩) (fun c4 => ?_)⟩)⟩) (fun c2 => ?_)⟩) (fun c1 => ?_)⟩
        all_goals (try (simp [toB_b] at c1))
        all_goals (try (simp [toB_b] at c2))
        all_goals (try (simp [toB_b] at c3))
        all_goals (try (simp [toB_b] at c4))
        all_goals (try (simp [toB_b] at c5))
        all_goals (subst k; clear iha ihb ga gb; simp [combS, eL, *])
        all_goals (try (repeat' split) <;> simp_all [Tl, Fl])
      · have h4 : k = 4 := by simp at h2 h3; omega
        refine ⟨_, q76 x y false false hxl, selp (fun c1 => ⟨_, q78 x false ga, selp (fun c2 => ⟨_, q75 y false hyl, selp (fun c3 => ⟨_, e77 s77, ?_⟩) (fun c3 => ⟨_, q75 x false hxl, selp (fun c4 => ?_) (fun c4 => ?_)⟩)⟩) (fun c2 => ⟨_, e77 s77, ?_⟩)⟩) (fun c1 => ⟨_, e77 s77, ?_⟩)⟩
        all_goals (try (simp [toB_b] at c1))
        all_goals (try (simp [toB_b] at c2))
        all_goals (try (simp [toB_b] at c3))
        all_goals (try (simp [toB_b] at c4))
        all_goals (subst k; clear iha ihb ga gb; simp [combS, eL, *])
        all_goals (try (repeat' split) <;> simp_all [Tl, Fl])
    · rintro s0 s3 s4 ⟨hs3, hc⟩
      simp only [List.cons.injEq, and_true] at hs3
      obtain ⟨rfl, rfl, rfl⟩ := hs3
      rw [hc]
      exact ⟨hpos, _, e79 (s79 k x false y false (by omega) (by omega)), rfl⟩)
end Go.Pi.TidyVc
