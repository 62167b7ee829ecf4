/- A part of a walk: Tidy7. -/
import Derived.Test.YtkcgbkijlnpoiaaTidy6
namespace Go.Pi.TidyVc
open Go Go.Pi Go.Proofs

theorem parse : ∀ (l : List N) (n k : Nat), l.all okNode = true → plainL l = true → pe l n = some k →
    ∃ fs : List Fm, fs.length = n ∧ (∀ f ∈ fs, f.wf ∧ f.ok) ∧ l.take k = (fs.map Fm.enc).flatten
  | l, 0, k, _, _, h => by
    have : k = 0 := by cases l <;> simp [pe] at h <;> exact h.symm
    subst this
    exact ⟨[], rfl, by simp, by simp⟩
  | [], n + 1, k, _, _, h => by simp [pe] at h
  | x :: r, n + 1, k, ho, hp, h => by
    simp only [pe, Option.map_eq_some_iff] at h
    obtain ⟨k', h, rfl⟩ := h
    simp only [List.all_cons, Bool.and_eq_true] at ho
    simp only [plainL, List.all_cons, Bool.and_eq_true, bne_iff_ne, ne_eq] at hp
    obtain ⟨fs, h1, h2, h3⟩ := parse r _ k' ho.2 (by simpa [plainL] using hp.2) h
    obtain ⟨c, v⟩ := x
    by_cases hk : c = 2 ∨ c = 3 ∨ c = 4
    · have hpn : pN c = 2 := by unfold pN; rw [if_pos hk]
      have hv : v = 0 := by
        have := ho.1
        unfold okNode at this
        simp at this
        rcases hk with rfl | rfl | rfl <;> simpa using this
      subst hv
      simp only [hpn] at h1
      match fs, h1, h2, h3 with
      | a :: b :: fs, h1, h2, h3 =>
        refine ⟨.nd c a b :: fs, by simp at h1 ⊢; omega, fun f hf => ?_, ?_⟩
        · rcases List.mem_cons.mp hf with rfl | hf
          · exact ⟨⟨hk, (h2 a (by simp)).1, (h2 b (by simp)).1⟩, (h2 a (by simp)).2, (h2 b (by simp)).2⟩
          · exact h2 f (by simp [hf])
        · simp only [List.take_succ_cons, h3, List.map_cons, List.flatten_cons, Fm.enc, List.cons_append, List.append_assoc]
      | [_], h1, _, _ => simp at h1
      | [], h1, _, _ => simp at h1
    · have hpn : pN c = 0 := by unfold pN; rw [if_neg hk, if_neg (by have := hp.1; simp at this; omega)]
      simp only [hpn] at h1
      refine ⟨.lf (c, v) :: fs, by simp at h1 ⊢; omega, fun f hf => ?_, ?_⟩
      · rcases List.mem_cons.mp hf with rfl | hf
        · refine ⟨?_, ?_⟩
          · have := hp.1
            simp only [Fm.wf]
            simp at this
            omega
          · intro h1
            simp only at h1
            have := ho.1
            unfold okNode at this
            subst h1
            simpa using this
        · exact h2 f hf
      · simp only [List.take_succ_cons, h3, List.map_cons, List.flatten_cons, Fm.enc, List.cons_append, List.nil_append]

theorem isF_enc {l : List N} (h : isF l = true) (hp : plainL l = true) : ∃ f : Fm, f.wf ∧ f.ok ∧ l = f.enc ∧ l.length ≤ 40 := by
  unfold isF at h
  simp only [Bool.and_eq_true, decide_eq_true_eq] at h
  obtain ⟨⟨⟨h1, h2⟩, h3⟩, h4⟩ := h
  unfold peI at h4
  rw [List.drop_zero] at h4
  cases hk : pe l 1 with
  | none => rw [hk] at h4; simp at h4
  | some k =>
    rw [hk] at h4
    have h4 : k = l.length := by simp at h4; omega
    subst h4
    obtain ⟨fs, g1, g2, g3⟩ := parse l 1 _ h3 hp hk
    obtain ⟨f, rfl⟩ := List.length_eq_one_iff.mp g1
    refine ⟨f, (g2 f (by simp)).1, (g2 f (by simp)).2, ?_, h2⟩
    simpa using g3

/-- Both answer the same. -/
theorem out_ok (l : List N) (hl : l.length < 4294967296) : ∃ (r : List N) (y : Bool) (c : Int), r.length ≤ 40 ∧ (∀ z, Sat Try.prog S9 9 [eL l z] [eL r y, .i c]) ∧ Sat Try.prog S11 11 [eL l false] [eL r y, .i c] := by
  by_cases h1 : isF l = true
  · by_cases h2 : plainL l = true
    · obtain ⟨f, w, o, e, h40⟩ := isF_enc h1 h2
      subst e
      refine ⟨tidyS f, false, 0, by have := (tidyS_len f).2; omega, fun z => v9 ?_, v11 ?_⟩
      · unfold eL
        rw [← r9]
        refine ⟨_, e34 (s34 _ z hl), selp (fun h => ?_) (fun h => ⟨_, e35 (s35 _ z hl), selp (fun h3 => ?_) (fun h3 => ⟨_, e36 (s36 f z w (by omega)), rfl⟩)⟩)⟩
        · rw [toB_b, h1] at h; cases h
        · rw [toB_b] at h3; unfold plainL at h2; rw [h2] at h3; cases h3
      · unfold eL
        rw [← r11]
        refine ⟨_, e38 (s38 _ false false hl), selp (fun h => ?_) (fun h => ⟨_, e39 (s39 f w o (by omega)), rfl⟩)⟩
        rw [toI_i, if_pos h1, if_pos h2] at h; cases h
    · refine ⟨[], true, 5, by simp, fun z => v9 ?_, v11 ?_⟩
      · unfold eL
        rw [← r9]
        refine ⟨_, e34 (s34 _ z hl), selp (fun h => ?_) (fun h => ⟨_, e35 (s35 _ z hl), selp (fun h3 => rfl) (fun h3 => ?_)⟩)⟩
        · rw [toB_b, h1] at h; cases h
        · exfalso
          apply h2
          rw [toB_b] at h3
          unfold plainL
          cases hc : l.all (fun n => n.1 != 5 && n.1 != 6) with
          | true => rfl
          | false => rw [hc] at h3; cases h3
      · unfold eL
        rw [← r11]
        refine ⟨_, e38 (s38 _ false false hl), selp (fun h => ?_) (fun h => ?_)⟩
        · rw [if_pos h1, if_neg h2]; rfl
        · rw [toI_i, if_pos h1, if_neg h2] at h; cases h
  · refine ⟨[], true, 1, by simp, fun z => v9 ?_, v11 ?_⟩
    · unfold eL
      rw [← r9]
      refine ⟨_, e34 (s34 _ z hl), selp (fun h => rfl) (fun h => ?_)⟩
      rw [toB_b] at h
      cases hc : isF l with
      | true => exact absurd hc h1
      | false => rw [hc] at h; cases h
    · unfold eL
      rw [← r11]
      refine ⟨_, e38 (s38 _ false false hl), selp (fun h => ?_) (fun h => ?_)⟩
      · rw [if_neg h1]; rfl
      · rw [toI_i, if_neg h1] at h; cases h
end Go.Pi.TidyVc
