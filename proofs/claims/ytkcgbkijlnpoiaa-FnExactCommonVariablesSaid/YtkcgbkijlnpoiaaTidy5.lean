/- A part of a walk: Tidy5. -/
import Derived.Test.YtkcgbkijlnpoiaaTidy4
namespace Go.Pi.TidyVc
open Go Go.Pi Go.Proofs

/-- A formula without modal signs. -/
inductive Fm where
  | lf (n : N)
  | nd (k : Int) (a b : Fm)

def Fm.enc : Fm → List N
  | .lf n => [n]
  | .nd k a b => (k, 0) :: (a.enc ++ b.enc)

def Fm.wf : Fm → Prop
  | .lf n => n.1 ≠ 2 ∧ n.1 ≠ 3 ∧ n.1 ≠ 4 ∧ n.1 ≠ 5 ∧ n.1 ≠ 6
  | .nd k a b => (k = 2 ∨ k = 3 ∨ k = 4) ∧ a.wf ∧ b.wf

theorem Fm.pos : ∀ f : Fm, 1 ≤ f.enc.length
  | .lf _ => by simp [Fm.enc]
  | .nd .. => by simp [Fm.enc]

theorem pe_enc : ∀ (f : Fm) (r : List N) (n : Nat), f.wf → pe (f.enc ++ r) (n + 1) = (pe r n).map (· + f.enc.length)
  | .lf x, r, n, h => by
    have : pN x.1 = 0 := by unfold pN; rw [if_neg (by have := h; unfold Fm.wf at this; omega), if_neg (by have := h; unfold Fm.wf at this; omega)]
    simp [Fm.enc, pe, this]
  | .nd k a b, r, n, h => by
    obtain ⟨hk, ha, hb⟩ := h
    have hp : pN k = 2 := by unfold pN; rw [if_pos hk]
    simp only [Fm.enc, List.cons_append, List.append_assoc, pe, hp]
    rw [pe_enc a _ (n + 1) ha, pe_enc b _ n hb, Option.map_map, Option.map_map]
    congr 1
    funext x
    simp
    omega

def Tl : List N := [(4, 0), (1, 0), (1, 0)]
def Fl : List N := [(1, 0)]

def combS (k : Int) (x y : List N) : List N :=
  if k = 2 then (if x = y then x else if y = Tl then x else if x = Tl then y else if x = Fl then Fl else if y = Fl then Fl else (k, 0) :: (x ++ y))
  else if k = 3 then (if x = y then x else if y = Fl then x else if x = Fl then y else if x = Tl then Tl else if y = Tl then Tl else (k, 0) :: (x ++ y))
  else if k = 4 then (if x = y then Tl else if x = Fl then Tl else if y = Tl then Tl else if x = Tl then y else (k, 0) :: (x ++ y))
  else (k, 0) :: (x ++ y)

def tidyS : Fm → List N
  | .lf n => [n]
  | .nd k a b => if (Fm.nd k a b).enc = Tl then Tl else combS k (tidyS a) (tidyS b)

theorem combS_len (k : Int) (x y : List N) (hx : 1 ≤ x.length) (hy : 1 ≤ y.length) : 1 ≤ (combS k x y).length ∧ (combS k x y).length ≤ x.length + y.length + 1 := by
  unfold combS
  repeat' split
  all_goals (try simp [Tl, Fl])
  all_goals omega

theorem tidyS_len : ∀ f : Fm, 1 ≤ (tidyS f).length ∧ (tidyS f).length ≤ f.enc.length
  | .lf n => by simp [tidyS, Fm.enc]
  | .nd k a b => by
    have h1 := tidyS_len a
    have h2 := tidyS_len b
    unfold tidyS
    split
    · rename_i h
      rw [h]; simp [Tl]
    · have := combS_len k (tidyS a) (tidyS b) h1.1 h2.1
      simp only [Fm.enc, List.length_cons, List.length_append]
      omega

theorem cut_left (k : Int) (a b : Fm) : cutN (Fm.nd k a b).enc 1 (1 + a.enc.length) = a.enc := by
  simp [cutN, Fm.enc, Nat.add_comm 1]
theorem cut_right (k : Int) (a b : Fm) (m : Nat) (hm : 1 + a.enc.length + b.enc.length ≤ m) : cutN (Fm.nd k a b).enc (1 + a.enc.length) m = b.enc := by
  unfold cutN
  rw [List.take_of_length_le (by simp [Fm.enc]; omega)]
  simp [Fm.enc, Nat.add_comm 1]
theorem pe_left (k : Int) (a b : Fm) (h : a.wf) : pe ((Fm.nd k a b).enc.drop 1) 1 = some a.enc.length := by
  simp only [Fm.enc, List.drop_succ_cons, List.drop_zero]
  rw [pe_enc a _ 0 h]
  simp [pe]

theorem q60 (a b : List N) (za zb : Bool) (ha : a.length < 4294967296) : E.sat 60 [] [eL a za, eL b zb] [.b (decide (a = b))] := e60 (s60 a b za zb ha)

theorem s36 : ∀ (f : Fm) (z : Bool), f.wf → f.enc.length < 1073741824 → Sat Try.prog S36 36 [eL f.enc z] [eL (tidyS f) false]
  | .lf n, z, hw, hl => v36 (by
    have hp : parts n.1 = 0 := by unfold parts; rw [if_neg (by have := hw; unfold Fm.wf at this; omega), if_neg (by have := hw; unfold Fm.wf at this; omega)]
    have hs := s58 n.1
    rw [hp] at hs
    unfold eL
    rw [← r36]
    simp only [Fm.enc, List.map_cons, List.map_nil, List.length_cons, List.length_nil]
    refine ⟨by decide, _, e58 hs, selp (fun h => by simp [toI_i] at h) (fun _ => ⟨by decide, _, e58 hs, selp (fun h => by simp [toI_i] at h) (fun _ => ⟨_, e62 (s62 [n] z (by simp)), rfl⟩)⟩)⟩)
  | .nd k a b, z, hw, hl => v36 (by
    obtain ⟨hk, ha, hb⟩ := hw
    have hp : parts k = 2 := by unfold parts; rw [if_pos hk]
    have hs := s58 k
    rw [hp] at hs
    have hlen : (Fm.nd k a b).enc.length = 1 + a.enc.length + b.enc.length := by simp [Fm.enc]; omega
    have iha := s36 a z ha (by omega)
    have ihb := s36 b z hb (by omega)
    have la := tidyS_len a
    have lb := tidyS_len b
    have h63 := s63 (Fm.nd k a b).enc z _ (by omega) (by omega) (pe_left k a b ha)
    rw [cut_left] at h63
    have h64 := s64 (Fm.nd k a b).enc z _ (by omega) (by omega) (pe_left k a b ha)
    rw [cut_right k a b _ (by omega)] at h64
    have hget : ((Fm.nd k a b).enc.map eN).getD ((0 : Int)).toNat D.u = eN (k, 0) := rfl
    have hpos : 0 ≤ (0 : Int) ∧ (0 : Int) < (((Fm.nd k a b).enc.map eN).length : Int) := by rw [List.length_map]; omega
    unfold eL
    rw [← r36]
    simp only [hget, fst_eN]
    refine ⟨hpos, _, e58 hs, selp (fun h => by simp [toI_i] at h) (fun _ => ⟨hpos, _, e58 hs, selp (fun _ => ?_) (fun h => by simp [toI_i] at h)⟩)⟩
    refine ⟨_, e61 s61, _, q60 _ _ z false (by omega), selp (fun h => ⟨_, e62 (s62 _ z (by omega)), ?_⟩) (fun h => ?_)⟩
    · have h : (Fm.nd k a b).enc = Tl := by simpa [toB_b, Tl] using h
      simp only [tidyS, h, if_true]
      rfl
    · have h : (Fm.nd k a b).enc ≠ Tl := by simpa [toB_b, Tl] using h
      have ht : tidyS (.nd k a b) = combS k (tidyS a) (tidyS b) := by rw [tidyS, if_neg h]
      rw [ht]
      refine ⟨_, e63 h63, _, e36 iha, _, e64 h64, _, e36 ihb, _, e61 s61, _, e65 s65, ?_⟩
      generalize hX : tidyS a = x at *
      generalize hY : tidyS b = y at *
      refine ⟨fun s => s = [eL (Fm.nd k a b).enc z, eL x false, eL y false] ∧ combS k x y = (k, 0) :: (x ++ y), ⟨hpos, ?_⟩, ?_⟩
      · have hxl : x.length < 4294967296 := by omega
        have hyl : y.length < 4294967296 := by omega
        simp only [toI_i]
        refine selp (fun h2 => ?_) (fun h2 => selp (fun h3 => ?_) (fun h3 => selp (fun h4 => ?_) (fun h4 => ?_)))
        · have h2 : k = 2 := by simpa using h2
          refine ⟨_, q60 x y false false hxl, selp (fun c1 => ⟨_, q60 y _ false false hyl, selp (fun c2 => ?_) (fun c2 => ⟨_, q60 x _ false false hxl, selp (fun c3 => ?_) (fun c3 => ⟨_, q60 x _ false false hxl, selp (fun c4 => ⟨_, q60 y _ false false hyl, selp (fun c5 => ?_) (fun c5 => ?_)⟩) (fun c4 => ?_)⟩)⟩)⟩) (fun c1 => ?_)⟩
          all_goals (try (simp [toB_b] at c1))
          all_goals (try (simp [toB_b] at c2))
          all_goals (try (simp [toB_b] at c3))
          all_goals (try (simp [toB_b] at c4))
          all_goals (try (simp [toB_b] at c5))
          all_goals (subst k; simp [combS, Tl, Fl, eL, *])
          all_goals (try (split <;> simp_all))
        · have h3 : k = 3 := by simpa using h3
          refine ⟨_, q60 x y false false hxl, selp (fun c1 => ⟨_, q60 y _ false false hyl, selp (fun c2 => ?_) (fun c2 => ⟨_, q60 x _ false false hxl, selp (fun c3 => ?_) (fun c3 => ⟨_, q60 x _ false false hxl, selp (fun c4 => ⟨_, q60 y _ false false hyl, selp (fun c5 => ?_) (fun c5 => ?_)⟩) (fun c4 => ?_)⟩)⟩)⟩) (fun c1 => ?_)⟩
          all_goals (try (simp [toB_b] at c1))
          all_goals (try (simp [toB_b] at c2))
          all_goals (try (simp [toB_b] at c3))
          all_goals (try (simp [toB_b] at c4))
          all_goals (try (simp [toB_b] at c5))
          all_goals (subst k; simp [combS, Tl, Fl, eL, *])
          all_goals (try (split <;> simp_all))
        · have h4 : k = 4 := by simpa using h4
          refine ⟨_, q60 x y false false hxl, selp (fun c1 => ⟨_, q60 x _ false false hxl, selp (fun c2 => ⟨_, q60 y _ false false hyl, selp (fun c3 => ?_) (fun c3 => ⟨_, q60 x _ false false hxl, selp (fun c4 => ?_) (fun c4 => ?_)⟩)⟩) (fun c2 => ?_)⟩) (fun c1 => ?_)⟩
          all_goals (try (simp [toB_b] at c1))
          all_goals (try (simp [toB_b] at c2))
          all_goals (try (simp [toB_b] at c3))
          all_goals (try (simp [toB_b] at c4))
          all_goals (try (simp [toB_b] at c5))
          all_goals (subst k; simp [combS, Tl, Fl, eL, *])
          all_goals (try (split <;> simp_all))
        · simp at h2 h3 h4; omega
      · rintro s0 s3 s4 ⟨hs3, hc⟩
        simp only [List.cons.injEq, and_true] at hs3
        obtain ⟨rfl, rfl, rfl⟩ := hs3
        rw [hc]
        exact ⟨hpos, _, e66 (s66 k x false y false (by omega) (by omega)), rfl⟩)
end Go.Pi.TidyVc
