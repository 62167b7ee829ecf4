/- A part of a walk: the program's CommonVariables, and the law's own functions. -/
import Derived.Test.YtkcgbkijlnpoiaaCommon7
namespace Go.Pi.CommonVc
open Go Go.Pi Go.Proofs Go.Pi.TidyVc Go.Pi.ForgetVc

theorem mask_lt' (l : List N) (h : inR l) : maskOf l < 64 := mask_lt l 0 (by omega) h
theorem s55 (xs : List B) (z : Bool) (r : B) (ps : List Int) (y : Bool) (hl : xs.length ≤ 12) (hp : ps.length = xs.length) : Sat Try.prog S55 55 [encS xs z, .s r, encI ps y] [.i ((mk1 xs ps &&& mk2 xs r ps : Nat) : Int)] := v55 (by
  have q1 := e120 (s120 xs z ps y 1 hl hp)
  have q2 := e120 (s120 xs z ps y 2 hl hp)
  have z1 := zip_len hp 1
  have z2 := zip_len hp 2
  have f1 := e119 (s119 (parts xs ps 1) (parts xs ps 1).isEmpty (by omega))
  have f2 := e119 (s119 (parts xs ps 2 ++ [r]) false (by simp; omega))
  have loop : ∀ (ts : List B) (i : Nat) (hi : i < ts.length), ((ts.map qOf).map eQ).getD i D.u = eL (parseL ts[i]) (parseZ ts[i]) ∧ (((ts.map qOf).take (i + 1)).foldl (fun m q => m ||| maskOf q.1) 0 = ((ts.map qOf).take i).foldl (fun m q => m ||| maskOf q.1) 0 ||| maskOf (parseL ts[i])) := by
    intro ts i hi
    have hi' : i < (ts.map qOf).length := by simpa using hi
    refine ⟨?_, ?_⟩
    · rw [getD_eQ hi']
      simp [qOf]
    · rw [fold_take hi']
      simp [qOf]
  have hm : ∀ (ts : List B) (i : Nat), ((ts.map qOf).take i).foldl (fun m q => m ||| maskOf q.1) 0 < 64 := fun ts i => masks_lt _ 0 (by omega) (fun q hq => (qs_ok ts q (List.mem_of_mem_take hq)).1)
  unfold encS encI at *
  rw [← r55]
  refine ⟨_, q1, _, f1, ?_⟩
  refine ⟨fun s => ∃ i : Nat, s = [encS xs z, .s r, encI ps y, .i ((((parts xs ps 1).map qOf).take i).foldl (fun m q => m ||| maskOf q.1) 0 : Nat), .i 0, .l (((parts xs ps 1).map qOf).map eQ) (parts xs ps 1).isEmpty, .i (parts xs ps 1).length, .i i] ∧ i ≤ (parts xs ps 1).length,
    fun s => match s with | [_, _, _, _, _, _, _, i] => (parts xs ps 1).length - i.toI.toNat | _ => 0, ⟨0, by simp [encS, encI, toL_l], by omega⟩, ?_⟩
  rintro s0 s1 s2 s7 s8 s16 s17 s18 ⟨i, hs, hi⟩
  simp only [List.cons.injEq, and_true] at hs
  obtain ⟨rfl, rfl, rfl, rfl, rfl, rfl, rfl, rfl⟩ := hs
  simp only [toL_l, toI_i, Int.toNat_natCast, List.length_map]
  refine selp (fun h => ?_) (fun h => ?_)
  · have hil : i < (parts xs ps 1).length := by have h3 : (i : Int) < (parts xs ps 1).length := of_decide_eq_true h; omega
    obtain ⟨k1, k2⟩ := loop (parts xs ps 1) i hil
    rw [k1, wr1 (by omega)]
    have hpl := parse_len (parts xs ps 1)[i]
    refine ⟨by omega, _, e121 (s121 _ _ (by omega) (parse_inR _)), trivial, trivial, ⟨i + 1, ?_, by omega⟩, by omega⟩
    simp only [toI_i]
    rw [(bor (hm _ i) (mask_lt' _ (parse_inR _))).1, k2]
  · have hil : i = (parts xs ps 1).length := by have h3 : ¬ ((i : Int) < (parts xs ps 1).length) := of_decide_eq_false h; omega
    subst hil
    have hm1 : (((parts xs ps 1).map qOf).take (parts xs ps 1).length).foldl (fun m q => m ||| maskOf q.1) 0 = mk1 xs ps := by
      rw [List.take_of_length_le (by simp)]
      rfl
    rw [hm1]
    refine ⟨_, q2, ?_, ?_⟩
    · simp only [toL_l, List.length_map, List.length_cons, List.length_nil]
      omega
    have ea : D.l ((D.l ((parts xs ps 2).map D.s) (parts xs ps 2).isEmpty).toL ++ [D.s r]) ((D.l ((parts xs ps 2).map D.s) (parts xs ps 2).isEmpty).toZ && [D.s r].isEmpty) = D.l ((parts xs ps 2 ++ [r]).map D.s) false := by simp [toL_l, toZ_l]
    rw [ea]
    refine ⟨_, f2, ?_⟩
    refine ⟨fun s => ∃ i : Nat, s = [.i (mk1 xs ps : Nat), .i ((((parts xs ps 2 ++ [r]).map qOf).take i).foldl (fun m q => m ||| maskOf q.1) 0 : Nat), .l (((parts xs ps 2 ++ [r]).map qOf).map eQ) (parts xs ps 2 ++ [r]).isEmpty, .i (parts xs ps 2 ++ [r]).length, .i i] ∧ i ≤ (parts xs ps 2 ++ [r]).length,
      fun s => match s with | [_, _, _, _, i] => (parts xs ps 2 ++ [r]).length - i.toI.toNat | _ => 0, ⟨0, by simp [toL_l], by omega⟩, ?_⟩
    rintro t7 t8 t33 t34 t35 ⟨j, hs, hj⟩
    simp only [List.cons.injEq, and_true] at hs
    obtain ⟨rfl, rfl, rfl, rfl, rfl⟩ := hs
    simp only [toL_l, toI_i, Int.toNat_natCast]
    have hlen : (((parts xs ps 2 ++ [r]).map qOf).map eQ).length = (parts xs ps 2 ++ [r]).length := by simp
    have hlen2 : (parts xs ps 2 ++ [r]).length ≤ 13 := by simp; omega
    rw [hlen]
    refine selp (fun h => ?_) (fun h => ?_)
    · have hil : j < (parts xs ps 2 ++ [r]).length := by have h3 : (j : Int) < ((parts xs ps 2 ++ [r]).length : Int) := of_decide_eq_true h; omega
      obtain ⟨k1, k2⟩ := loop (parts xs ps 2 ++ [r]) j hil
      rw [k1, wr1 (by omega)]
      have hpl := parse_len (parts xs ps 2 ++ [r])[j]
      refine ⟨by omega, _, e121 (s121 _ _ (by omega) (parse_inR _)), trivial, trivial, ⟨j + 1, ?_, by omega⟩, by omega⟩
      simp only [toI_i]
      rw [(bor (hm _ j) (mask_lt' _ (parse_inR _))).1, k2]
    · have hil : j = (parts xs ps 2 ++ [r]).length := by have h3 : ¬ ((j : Int) < ((parts xs ps 2 ++ [r]).length : Int)) := of_decide_eq_false h; omega
      have hm2 : (((parts xs ps 2 ++ [r]).map qOf).take j).foldl (fun m q => m ||| maskOf q.1) 0 = mk2 xs r ps := by
        rw [List.take_of_length_le (by simp; simp at hil; omega)]
        rfl
      rw [hm2, (band (m := mk1 xs ps) (n := mk2 xs r ps) (maskT_lt _) (maskT_lt _)).1]
      exact ⟨trivial, rfl⟩)

theorem seqC_zero {xs : List B} {r : B} {ps : List Int} (h : seqC xs r ps = 0) : xs.length ≤ 12 ∧ ps.length = xs.length := by
  unfold seqC at h
  split at h
  · rename_i hh
    unfold seqOk partOk at hh
    simp only [Bool.and_eq_true, decide_eq_true_eq] at hh
    exact ⟨hh.1.1.2, hh.2.2⟩
  · cases h

/-- What both return. -/
def outI (xs : List B) (r : B) (ps : List Int) : List Int := if seqC xs r ps = 0 then comm xs r ps else []
theorem outI_len (xs : List B) (r : B) (ps : List Int) : (outI xs r ps).length ≤ 6 := by
  unfold outI
  split
  · exact bits_len _
  · simp

theorem s25 (xs : List B) (z : Bool) (r : B) (ps : List Int) (y : Bool) (hl : xs.length < 4294967296) (hp : ps.length < 4294967296) : ∃ b, Sat Try.prog S25 25 [encS xs z, .s r, encI ps y] [encI (outI xs r ps) b, .i (seqC xs r ps)] := by
  by_cases h0 : seqC xs r ps = 0
  · obtain ⟨h1, h2⟩ := seqC_zero h0
    refine ⟨false, v25 ?_⟩
    have q := e52 (s52 xs z r ps y h1 h2)
    have q51 := e51 (s51 xs z r ps y hl hp)
    unfold encS encI at *
    rw [← r25]
    refine ⟨_, q51, selp (fun h => ?_) (fun _ => ⟨_, q, ?_⟩)⟩
    · simp [toI_i, h0] at h
    · simp [outI, h0]
  · refine ⟨true, v25 ?_⟩
    have q51 := e51 (s51 xs z r ps y hl hp)
    unfold encS encI at *
    rw [← r25]
    refine ⟨_, q51, selp (fun _ => ?_) (fun h => ?_)⟩
    · simp [outI, h0]
    · simp [toI_i, h0] at h

theorem s28 (xs : List B) (z : Bool) (r : B) (ps : List Int) (y : Bool) (hl : xs.length < 4294967296) (hp : ps.length < 4294967296) : ∃ b, Sat Try.prog S28 28 [encS xs z, .s r, encI ps y] [encI (outI xs r ps) b, .i (seqC xs r ps)] := by
  by_cases h0 : seqC xs r ps = 0
  · obtain ⟨h1, h2⟩ := seqC_zero h0
    refine ⟨(comm xs r ps).isEmpty, v28 ?_⟩
    have q := e55 (s55 xs z r ps y h1 h2)
    have q51 := e53 (s53 xs z r ps y hl hp)
    have hlt : mk1 xs ps &&& mk2 xs r ps < 64 := (band (maskT_lt _) (maskT_lt _)).2
    have q54 := e54 (s54 _ hlt)
    unfold encS encI at *
    rw [← r28]
    refine ⟨_, q51, selp (fun h => ?_) (fun _ => ⟨_, q, _, q54, ?_⟩)⟩
    · simp [toI_i, h0] at h
    · rw [outI, if_pos h0, h0]
      rfl
  · refine ⟨true, v28 ?_⟩
    have q51 := e53 (s53 xs z r ps y hl hp)
    unfold encS encI at *
    rw [← r28]
    refine ⟨_, q51, selp (fun _ => ?_) (fun h => ?_)⟩
    · simp [outI, h0]
    · simp [toI_i, h0] at h

/-! ### the law's own functions -/
def szR : List B → Int → Int
  | [], l => l
  | x :: r, l => if l - x.size < 0 then -1 else szR r (l - x.size)
theorem s24 (xs : List B) (z : Bool) (hl : xs.length ≤ 9223372036854775807) (hs : ∀ x ∈ xs, x.size ≤ 9223372036854775807) : Sat Try.prog S24 24 [encS xs z, .i 1048576] [.i (if (1048576 : Int) < xs.length then -1 else szR xs (1048576 - xs.length))] := v24 (by
  unfold encS
  rw [← r24]
  have w : IntKind.i64.wrap ((1048576 : Int) - ((xs.map D.s).length : Int)) = 1048576 - xs.length := by rw [List.length_map, wrap_id (by omega) (by omega)]
  simp only [w]
  refine selp (fun h => ?_) (fun h => ?_)
  · have h3 : (1048576 : Int) - xs.length < 0 := by
      exact of_decide_eq_true h
    rw [if_pos (by omega)]
  · have h3 : ¬ ((1048576 : Int) - xs.length < 0) := by
      exact of_decide_eq_false h
    rw [if_neg (by omega)]
    refine ⟨fun s => ∃ (i : Nat) (l : Int), s = [encS xs z, .i l, .i i] ∧ i ≤ xs.length ∧ 0 ≤ l ∧ l ≤ 1048576 ∧ szR (xs.drop i) l = szR xs (1048576 - xs.length), fun s => match s with | [_, _, i] => xs.length - i.toI.toNat | _ => 0, ⟨0, 1048576 - xs.length, rfl, by omega, by omega, by omega, rfl⟩, ?_⟩
    rintro s0 s1 s5 ⟨i, l, hs', hi, hl0, hl1, he⟩
    simp only [List.cons.injEq, and_true] at hs'
    obtain ⟨rfl, rfl, rfl⟩ := hs'
    simp only [encS, toL_l, toI_i, Int.toNat_natCast, List.length_map]
    refine selp (fun h => ?_) (fun h => ?_)
    · have hil : i < xs.length := by have h3 : (i : Int) < xs.length := of_decide_eq_true h; omega
      have hsz := hs _ (List.getElem_mem hil)
      have w2 : IntKind.i64.wrap (l - (xs[i].size : Int)) = l - xs[i].size := wrap_id (by omega) (by omega)
      have w3 : IntKind.i64.wrap ((i : Int) + 1) = ((i + 1 : Nat) : Int) := wr1 (by omega)
      simp only [getD_s hil, toS_s, w2, w3]
      rw [List.drop_eq_getElem_cons hil, szR] at he
      refine ⟨by omega, selp (fun h => ?_) (fun h => ?_)⟩
      · have h4 : l - (xs[i].size : Int) < 0 := of_decide_eq_true h
        rw [← he, if_pos h4]
      · have h4 : ¬ (l - (xs[i].size : Int) < 0) := of_decide_eq_false h
        rw [if_neg h4] at he
        exact ⟨trivial, ⟨i + 1, _, rfl, by omega, by omega, by omega, he⟩, by omega⟩
    · have hil : i = xs.length := by have h3 : ¬ ((i : Int) < xs.length) := of_decide_eq_false h; omega
      subst hil
      rw [List.drop_length, szR] at he
      rw [he])

theorem s26 (xs : List B) (z : Bool) (hl : xs.length < 4294967296) : Sat Try.prog S26 26 [encS xs z] [encS xs false] := v26 (by
  unfold encS
  rw [← r26]
  refine ⟨by rw [List.length_map]; omega, fun s => ∃ i : Nat, s = [encS xs z, .l ((xs.take i).map D.s ++ List.replicate (xs.length - i) (.s ⟨#[]⟩)) false, .i i] ∧ i ≤ xs.length, fun s => match s with | [_, _, i] => xs.length - i.toI.toNat | _ => 0, ⟨0, by simp [encS], by omega⟩, ?_⟩
  rintro s0 s3 s4 ⟨i, hs, hi⟩
  simp only [List.cons.injEq, and_true] at hs
  obtain ⟨rfl, rfl, rfl⟩ := hs
  simp only [encS, toL_l, toZ_l, toI_i, List.length_map, Int.toNat_natCast]
  refine selp (fun h => ?_) (fun h => ?_)
  · have hil : i < xs.length := by have h3 : (i : Int) < xs.length := of_decide_eq_true h; omega
    have hlen : ((xs.take i).map D.s ++ List.replicate (xs.length - i) (D.s ⟨#[]⟩)).length = xs.length := by simp; omega
    rw [getD_s hil, wr1 (by omega), hlen]
    refine ⟨by omega, by omega, hil, trivial, ⟨i + 1, ?_, by omega⟩, by omega⟩
    have e1 : List.replicate (xs.length - i) (D.s ⟨#[]⟩) = D.s ⟨#[]⟩ :: List.replicate (xs.length - (i + 1)) (D.s ⟨#[]⟩) := by
      rw [show xs.length - i = (xs.length - (i + 1)) + 1 by omega, List.replicate_succ]
    have e2 : ((xs.take i).map D.s).length = i := by simp; omega
    have := set_mid ((xs.take i).map D.s) (List.replicate (xs.length - (i + 1)) (D.s ⟨#[]⟩)) (D.s ⟨#[]⟩) (D.s xs[i])
    rw [e2] at this
    rw [e1, this, List.take_succ_eq_append_getElem hil]
    simp only [List.map_append, List.map_cons, List.map_nil, List.append_assoc, List.singleton_append]
  · have hil : i = xs.length := by have h3 : ¬ ((i : Int) < xs.length) := of_decide_eq_false h; omega
    subst hil
    simp)

theorem s27 (ps : List Int) (z : Bool) (hl : ps.length < 4294967296) : Sat Try.prog S27 27 [encI ps z] [encI ps false] := v27 (by
  unfold encI
  rw [← r27]
  refine ⟨by rw [List.length_map]; omega, fun s => ∃ i : Nat, s = [encI ps z, .l ((ps.take i).map D.i ++ List.replicate (ps.length - i) (.i 0)) false, .i i] ∧ i ≤ ps.length, fun s => match s with | [_, _, i] => ps.length - i.toI.toNat | _ => 0, ⟨0, by simp [encI], by omega⟩, ?_⟩
  rintro s0 s3 s4 ⟨i, hs, hi⟩
  simp only [List.cons.injEq, and_true] at hs
  obtain ⟨rfl, rfl, rfl⟩ := hs
  simp only [encI, toL_l, toZ_l, toI_i, List.length_map, Int.toNat_natCast]
  refine selp (fun h => ?_) (fun h => ?_)
  · have hil : i < ps.length := by have h3 : (i : Int) < ps.length := of_decide_eq_true h; omega
    have hlen : ((ps.take i).map D.i ++ List.replicate (ps.length - i) (D.i 0)).length = ps.length := by simp; omega
    rw [getD_i hil, wr1 (by omega), hlen]
    refine ⟨by omega, by omega, hil, trivial, ⟨i + 1, ?_, by omega⟩, by omega⟩
    have e1 : List.replicate (ps.length - i) (D.i 0) = D.i 0 :: List.replicate (ps.length - (i + 1)) (D.i 0) := by
      rw [show ps.length - i = (ps.length - (i + 1)) + 1 by omega, List.replicate_succ]
    have e2 : ((ps.take i).map D.i).length = i := by simp; omega
    have := set_mid ((ps.take i).map D.i) (List.replicate (ps.length - (i + 1)) (D.i 0)) (D.i 0) (D.i ps[i])
    rw [e2] at this
    rw [e1, this, List.take_succ_eq_append_getElem hil]
    simp only [List.map_append, List.map_cons, List.map_nil, List.append_assoc, List.singleton_append]
  · have hil : i = ps.length := by have h3 : ¬ ((i : Int) < ps.length) := of_decide_eq_false h; omega
    subst hil
    simp)

theorem s29 (a : List Int) (za zb : Bool) (ha : a.length < 4294967296) : Sat Try.prog S29 29 [encI a za, encI a zb] [.b true] := v29 (by
  unfold encI
  rw [← r29]
  refine selp (fun h => by simp at h) (fun _ => ?_)
  refine ⟨fun s => ∃ i : Nat, s = [encI a za, encI a zb, .i i] ∧ i ≤ a.length, fun s => match s with | [_, _, i] => a.length - i.toI.toNat | _ => 0, ⟨0, rfl, by omega⟩, ?_⟩
  rintro s0 s1 s5 ⟨i, hs, hi⟩
  simp only [List.cons.injEq, and_true] at hs
  obtain ⟨rfl, rfl, rfl⟩ := hs
  simp only [encI, toL_l, toI_i, List.length_map, Int.toNat_natCast]
  refine selp (fun h => ?_) (fun h => trivial)
  have hil : i < a.length := by have h3 : (i : Int) < a.length := of_decide_eq_true h; omega
  rw [getD_i hil, wr1 (by omega)]
  exact ⟨by omega, by omega, selp (fun h => by simp at h) (fun _ => ⟨trivial, ⟨i + 1, rfl, by omega⟩, by omega⟩)⟩)
theorem s30 (a : List B) (za zb : Bool) (ha : a.length < 4294967296) : Sat Try.prog S30 30 [encS a za, encS a zb] [.b true] := v30 (by
  unfold encS
  rw [← r30]
  refine selp (fun h => by simp at h) (fun _ => ?_)
  refine ⟨fun s => ∃ i : Nat, s = [encS a za, encS a zb, .i i] ∧ i ≤ a.length, fun s => match s with | [_, _, i] => a.length - i.toI.toNat | _ => 0, ⟨0, rfl, by omega⟩, ?_⟩
  rintro s0 s1 s5 ⟨i, hs, hi⟩
  simp only [List.cons.injEq, and_true] at hs
  obtain ⟨rfl, rfl, rfl⟩ := hs
  simp only [encS, toL_l, toI_i, List.length_map, Int.toNat_natCast]
  refine selp (fun h => ?_) (fun h => trivial)
  have hil : i < a.length := by have h3 : (i : Int) < a.length := of_decide_eq_true h; omega
  rw [getD_s hil, wr1 (by omega)]
  exact ⟨by omega, by omega, selp (fun h => by simp at h) (fun _ => ⟨trivial, ⟨i + 1, rfl, by omega⟩, by omega⟩)⟩)

/-- A mark's text. -/
def chr (q : Nat) : B := strOfD [.i (IntKind.u8.wrap (IntKind.i64.wrap (48 + (q : Int).tmod 10)))]
def dg : Nat → Nat → B → B
  | 0, _, t => t
  | n + 1, q, t => if q = 0 then t else dg n (q / 10) (chr q ++ t)
def mt (k : Nat) : B := (⟨#[109]⟩ : B) ++ dg k k ⟨#[]⟩
theorem s56 (k : Nat) (h1 : 0 < k) (h2 : k < 4294967296) : Sat Try.prog S56 56 [.i k] [.s (mt k)] := v56 (by
  rw [← r56]
  refine selp (fun h => ?_) (fun _ => ?_)
  · have h3 : (k : Int) ≤ 0 := of_decide_eq_true h
    omega
  · refine ⟨fun s => ∃ (n q : Nat) (t : B), s = [.i q, .s t] ∧ q ≤ n ∧ n ≤ k ∧ t.size + q ≤ k ∧ dg n q t = dg k k ⟨#[]⟩, fun s => match s with | [q, _] => q.toI.toNat | _ => 0, ⟨k, k, ⟨#[]⟩, rfl, Nat.le_refl _, Nat.le_refl _, by show 0 + k ≤ k; omega, rfl⟩, ?_⟩
    rintro s0 s3 ⟨n, q, t, hs, hn, hnk, ht, he⟩
    simp only [List.cons.injEq, and_true] at hs
    obtain ⟨rfl, rfl⟩ := hs
    simp only [toI_i, toS_s, Int.toNat_natCast]
    refine selp (fun h => ?_) (fun h => ?_)
    · have h3 : (q : Int) > 0 := of_decide_eq_true h
      obtain ⟨m, rfl⟩ : ∃ m, n = m + 1 := ⟨n - 1, by omega⟩
      have hc : (chr q).size = 1 := by simp [chr, strOfD, ByteArray.size]
      have hc' : (strOfD [D.i (IntKind.u8.wrap (IntKind.i64.wrap (48 + (q : Int).tmod 10)))]).size = 1 := hc
      have hd : IntKind.i64.wrap ((q : Int).tdiv 10) = ((q / 10 : Nat) : Int) := by
        rw [Int.tdiv_eq_ediv_of_nonneg (by omega), wrap_id (by omega) (by omega)]
        omega
      rw [hd]
      refine ⟨by omega, trivial, by omega, by omega, ⟨m, q / 10, chr q ++ t, rfl, by omega, by omega, ?_, ?_⟩, by omega⟩
      · rw [ByteArray.size_append, hc]; omega
      · rw [dg, if_neg (by omega)] at he
        exact he
    · have h3 : ¬ ((q : Int) > 0) := of_decide_eq_false h
      have hq : q = 0 := by omega
      subst hq
      have : dg n 0 t = t := by cases n <;> simp [dg]
      rw [this] at he
      refine ⟨?_, ?_⟩
      · show 1 + t.size ≤ _; omega
      · unfold mt
        rw [he])

def marksS (k n : Nat) : List B := (List.range n).map fun j => mt (k + j)
theorem marksS_len (k n : Nat) : (marksS k n).length = n := by simp [marksS]
theorem s31 (xs : List B) (z : Bool) (k : Nat) (hk : 0 < k) (hk2 : k < 1000000000) (hl : xs.length < 1000000000) : Sat Try.prog S31 31 [encS xs z, .i k] [.i ((k + xs.length : Nat) : Int), encS (marksS k xs.length) z] := v31 (by
  unfold encS
  rw [← r31]
  refine ⟨fun s => ∃ i : Nat, s = [.l ((marksS k i).map D.s ++ (xs.drop i).map D.s) z, .i ((k + i : Nat) : Int), .i i] ∧ i ≤ xs.length, fun s => match s with | [_, _, i] => xs.length - i.toI.toNat | _ => 0, ⟨0, by simp [marksS], by omega⟩, ?_⟩
  rintro s0 s1 s5 ⟨i, hs, hi⟩
  simp only [List.cons.injEq, and_true] at hs
  obtain ⟨rfl, rfl, rfl⟩ := hs
  have hlen : ((marksS k i).map D.s ++ (xs.drop i).map D.s).length = xs.length := by simp [marksS_len]; omega
  simp only [toL_l, toZ_l, toI_i, Int.toNat_natCast, hlen]
  refine selp (fun h => ?_) (fun h => ?_)
  · have hil : i < xs.length := by have h3 : (i : Int) < xs.length := of_decide_eq_true h; omega
    have w2 : IntKind.i64.wrap (((k + i : Nat) : Int) + 1) = ((k + (i + 1) : Nat) : Int) := by rw [wrap_id (by omega) (by omega)]; omega
    rw [w2, wr1 (by omega)]
    refine ⟨_, e56 (s56 (k + i) (by omega) (by omega)), by omega, hil, trivial, trivial, ⟨i + 1, ?_, by omega⟩, by omega⟩
    have e2 : ((marksS k i).map D.s).length = i := by simp [marksS_len]
    have t0 := fun x v => set_mid ((marksS k i).map D.s) ((xs.drop (i + 1)).map D.s) x v
    rw [e2] at t0
    rw [List.drop_eq_getElem_cons hil, List.map_cons, t0]
    simp [marksS, List.range_succ]
  · have hil : i = xs.length := by have h3 : ¬ ((i : Int) < xs.length) := of_decide_eq_false h; omega
    subst hil
    simp)

def marksI (k n : Nat) : List Int := (List.range n).map fun (j : Nat) => ((k + j : Nat) : Int)
theorem marksI_len (k n : Nat) : (marksI k n).length = n := by simp [marksI]
theorem s32 (xs : List Int) (z : Bool) (k : Nat) (hk2 : k < 3000000000) (hl : xs.length < 1000000000) : Sat Try.prog S32 32 [encI xs z, .i k] [.i ((k + xs.length : Nat) : Int), encI (marksI k xs.length) z] := v32 (by
  unfold encI
  rw [← r32]
  refine ⟨fun s => ∃ i : Nat, s = [.l ((marksI k i).map D.i ++ (xs.drop i).map D.i) z, .i ((k + i : Nat) : Int), .i i] ∧ i ≤ xs.length, fun s => match s with | [_, _, i] => xs.length - i.toI.toNat | _ => 0, ⟨0, by simp [marksI], by omega⟩, ?_⟩
  rintro s0 s1 s5 ⟨i, hs, hi⟩
  simp only [List.cons.injEq, and_true] at hs
  obtain ⟨rfl, rfl, rfl⟩ := hs
  have hlen : ((marksI k i).map D.i ++ (xs.drop i).map D.i).length = xs.length := by simp [marksI_len]; omega
  simp only [toL_l, toZ_l, toI_i, Int.toNat_natCast, hlen]
  refine selp (fun h => ?_) (fun h => ?_)
  · have hil : i < xs.length := by have h3 : (i : Int) < xs.length := of_decide_eq_true h; omega
    have w2 : IntKind.i64.wrap (((k + i : Nat) : Int) + 1) = ((k + (i + 1) : Nat) : Int) := by rw [wrap_id (by omega) (by omega)]; omega
    rw [w2, wr1 (by omega)]
    refine ⟨by omega, hil, trivial, trivial, ⟨i + 1, ?_, by omega⟩, by omega⟩
    have e2 : ((marksI k i).map D.i).length = i := by simp [marksI_len]
    have t0 := fun x v => set_mid ((marksI k i).map D.i) ((xs.drop (i + 1)).map D.i) x v
    rw [e2] at t0
    rw [List.drop_eq_getElem_cons hil, List.map_cons, t0]
    simp [marksI, List.range_succ]
  · have hil : i = xs.length := by have h3 : ¬ ((i : Int) < xs.length) := of_decide_eq_false h; omega
    subst hil
    simp)
theorem s33 (k n : Nat) (z : Bool) (hk2 : k < 3000000000) (hl : n < 1000000000) : Sat Try.prog S33 33 [encI (marksI k n) z, .i k] [.i ((k + n : Nat) : Int)] := v33 (by
  unfold encI
  rw [← r33]
  refine ⟨fun s => ∃ i : Nat, s = [encI (marksI k n) z, .i ((k + i : Nat) : Int), .i i] ∧ i ≤ n, fun s => match s with | [_, _, i] => n - i.toI.toNat | _ => 0, ⟨0, rfl, by omega⟩, ?_⟩
  rintro s0 s1 s5 ⟨i, hs, hi⟩
  simp only [List.cons.injEq, and_true] at hs
  obtain ⟨rfl, rfl, rfl⟩ := hs
  simp only [encI, toL_l, toI_i, Int.toNat_natCast, List.length_map, marksI_len]
  refine selp (fun h => ?_) (fun h => ?_)
  · have hil : i < n := by have h3 : (i : Int) < n := of_decide_eq_true h; omega
    have w2 : IntKind.i64.wrap (((k + i : Nat) : Int) + 1) = ((k + (i + 1) : Nat) : Int) := by rw [wrap_id (by omega) (by omega)]; omega
    have hg : (marksI k n)[i]'(by rw [marksI_len]; exact hil) = ((k + i : Nat) : Int) := by simp [marksI]
    rw [getD_i (show i < (marksI k n).length by rw [marksI_len]; exact hil), hg, w2, wr1 (by omega)]
    refine ⟨by omega, selp (fun h => by simp [toI_i] at h) (fun _ => ⟨trivial, trivial, ⟨i + 1, rfl, by omega⟩, by omega⟩)⟩
  · have hil : i = n := by have h3 : ¬ ((i : Int) < n) := of_decide_eq_false h; omega
    subst hil
    rfl)

theorem s7 (xs : List B) (z : Bool) (r : B) (ps : List Int) (y : Bool) (hl : xs.length ≤ 9223372036854775807) (hs : ∀ x ∈ xs, x.size ≤ 9223372036854775807) : Sat Try.prog S7 7 [encS xs z, .s r, encI ps y] [.b true] := v7 (by
  have q24 := e24 (s24 xs z hl hs)
  by_cases hr : (r.size : Int) > 1048576
  · unfold encS encI
    rw [← r7]
    exact selp (fun _ => rfl) (fun h => absurd hr (of_decide_eq_false h))
  by_cases hp : (ps.length : Int) > 1048576
  · unfold encS encI
    rw [← r7]
    refine selp (fun _ => rfl) (fun _ => selp (fun _ => rfl) (fun h => ?_))
    have h3 : ¬ (((ps.map D.i).length : Int) > 1048576) := of_decide_eq_false h
    rw [List.length_map] at h3
    exact absurd hp h3
  by_cases hv : (if (1048576 : Int) < xs.length then (-1 : Int) else szR xs (1048576 - xs.length)) < 0
  · unfold encS encI at *
    rw [← r7]
    refine selp (fun _ => rfl) (fun _ => selp (fun _ => rfl) (fun _ => ⟨_, q24, selp (fun _ => rfl) (fun h => ?_)⟩))
    exact absurd hv (of_decide_eq_false h)
  have hxl : xs.length ≤ 1048576 := by
    by_cases h : (1048576 : Int) < xs.length
    · rw [if_pos h] at hv; omega
    · omega
  have hpl : ps.length ≤ 1048576 := by omega
  have q26 := e26 (s26 xs z (by omega))
  have q27 := e27 (s27 ps y (by omega))
  obtain ⟨b1, q25⟩ := s25 xs false r ps false (by omega) (by omega)
  obtain ⟨b2, q28⟩ := s28 xs false r ps false (by omega) (by omega)
  have q25 := e25 q25
  have q28 := e28 q28
  have hol := outI_len xs r ps
  have q29o := fun za zb => e29 (s29 (outI xs r ps) za zb (by omega))
  have q29p := fun za zb => e29 (s29 ps za zb (by omega))
  have q30 := fun za zb => e30 (s30 xs za zb (by omega))
  have q31 := e31 (s31 xs false 1 (by omega) (by omega) (by omega))
  have q32p := e32 (s32 ps false (1 + xs.length) (by omega) (by omega))
  have q32o := e32 (s32 (outI xs r ps) b2 1 (by omega) (by omega))
  have q33 := e33 (s33 1 (outI xs r ps).length b2 (by omega) (by omega))
  have hn1 : decide (((1 + xs.length + ps.length : Nat) : Int) < 0) = false := decide_eq_false (by omega)
  have hn2 : decide (((1 + (outI xs r ps).length : Nat) : Int) < 0) = false := decide_eq_false (by omega)
  unfold encS encI at *
  rw [← r7]
  refine selp (fun h => absurd (of_decide_eq_true h) hr) (fun _ => selp (fun h => ?_) (fun _ => ?_))
  · have h3 : (((ps.map D.i).length : Int) > 1048576) := of_decide_eq_true h
    rw [List.length_map] at h3
  refine ⟨_, q24, selp (fun h => absurd (of_decide_eq_true h) hv) (fun _ => ?_)⟩
  refine ⟨_, q26, _, q27, _, _, q25, _, q26, _, q27, _, _, q28, _, q29o _ _, selp (fun _ => selp (fun h => by simp at h) (fun _ => ?_)) (fun h => by cases h)⟩
  refine ⟨_, q26, _, q30 _ _, selp (fun h => by cases h) (fun _ => ?_)⟩
  refine ⟨_, q27, _, q29p _ _, selp (fun h => by cases h) (fun _ => ?_)⟩
  refine ⟨_, _, q31, _, _, q32p, selp (fun _ => ?_) (fun h => by rw [toI_i, hn1] at h; cases h)⟩
  refine ⟨_, q29o _ _, selp (fun _ => selp (fun h => by simp at h) (fun _ => ?_)) (fun h => by cases h)⟩
  refine ⟨_, _, q32o, _, q33, selp (fun h => by rw [toI_i, hn2] at h; cases h) (fun _ => selp (fun h => by simp at h) (fun _ => ?_))⟩
  refine ⟨_, q26, _, q27, _, _, q28, _, q29o _ _, selp (fun _ => selp (fun h => by simp at h) (fun _ => ?_)) (fun h => by cases h)⟩
  exact ⟨_, q33, selp (fun h => by rw [toI_i, hn2] at h; cases h) (fun _ => selp (fun h => by simp at h) (fun _ => rfl))⟩)
end Go.Pi.CommonVc
