/- A part of a walk: what CommonVariables returns, in the program and in the reference. -/
import Derived.Test.YtkcgbkijlnpoiaaCommon6
namespace Go.Pi.CommonVc
open Go Go.Pi Go.Proofs Go.Pi.TidyVc Go.Pi.ForgetVc

def pick (n : Int) (q : B × Int) : List B := if q.2 = n then [q.1] else []
/-- The texts that belong to part n. -/
def parts (xs : List B) (ps : List Int) (n : Int) : List B := (xs.zip ps).flatMap (pick n)
theorem flat_take1 {α β : Type} {f : α → List β} {l : List α} {i : Nat} (h : i < l.length) : (l.take (i + 1)).flatMap f = (l.take i).flatMap f ++ f l[i] := by
  rw [List.take_succ_eq_append_getElem h, List.flatMap_append]
  simp
theorem pick_len (n : Int) : ∀ l : List (B × Int), (l.flatMap (pick n)).length ≤ l.length
  | [] => by simp
  | q :: l => by
    have := pick_len n l
    simp only [List.flatMap_cons, List.length_append, List.length_cons]
    have : (pick n q).length ≤ 1 := by unfold pick; split <;> simp
    omega

theorem s114 (xs : List B) (z : Bool) (ps : List Int) (y : Bool) (n : Int) (hl : xs.length ≤ 12) (hp : ps.length = xs.length) : Sat Try.prog S114 114 [encS xs z, encI ps y, .i n] [encS (parts xs ps n) false] := v114 (by
  unfold encS encI
  rw [← r114]
  refine ⟨fun s => ∃ i : Nat, s = [encS xs z, encI ps y, .i n, encS (((xs.zip ps).take i).flatMap (pick n)) false, .i i] ∧ i ≤ xs.length, fun s => match s with | [_, _, _, _, i] => xs.length - i.toI.toNat | _ => 0, ⟨0, by simp [encS, encI], by omega⟩, ?_⟩
  rintro s0 s1 s2 s7 s8 ⟨i, hs, hi⟩
  simp only [List.cons.injEq, and_true] at hs
  obtain ⟨rfl, rfl, rfl, rfl, rfl⟩ := hs
  simp only [encS, encI, toL_l, toZ_l, toI_i, Int.toNat_natCast, List.length_map]
  have hzl : (xs.zip ps).length = xs.length := by rw [List.length_zip]; omega
  refine selp (fun h => ?_) (fun h => ?_)
  · have hil : i < xs.length := by have h3 : (i : Int) < xs.length := of_decide_eq_true h; omega
    have hiz : i < (xs.zip ps).length := by omega
    have hpl := pick_len n ((xs.zip ps).take i)
    have hpl2 : ((xs.zip ps).take i).length ≤ 12 := by simp; omega
    rw [getD_s hil, getD_i (show i < ps.length by omega), wr1 (by omega)]
    simp only [toI_i, List.length_cons, List.length_nil]
    refine ⟨by omega, selp (fun h => ?_) (fun h => ?_)⟩
    · have hk : ps[i] = n := by simpa using h
      refine ⟨by omega, ⟨by omega, by omega⟩, trivial, ⟨i + 1, ?_, by omega⟩, by omega⟩
      rw [flat_take1 hiz]
      simp [pick, hk]
    · have hk : ¬ ps[i] = n := by simpa using h
      refine ⟨trivial, ⟨i + 1, ?_, by omega⟩, by omega⟩
      rw [flat_take1 hiz]
      simp [pick, hk]
  · have hil : i = xs.length := by have h3 : ¬ ((i : Int) < xs.length) := of_decide_eq_false h; omega
    subst hil
    rw [← hzl, List.take_length]
    rfl)

theorem s120 (xs : List B) (z : Bool) (ps : List Int) (y : Bool) (n : Int) (hl : xs.length ≤ 12) (hp : ps.length = xs.length) : Sat Try.prog S120 120 [encS xs z, encI ps y, .i n] [encS (parts xs ps n) (parts xs ps n).isEmpty] := v120 (by
  unfold encS encI
  rw [← r120]
  refine ⟨fun s => ∃ i : Nat, s = [encI ps y, .i n, encS (((xs.zip ps).take i).flatMap (pick n)) (((xs.zip ps).take i).flatMap (pick n)).isEmpty, encS xs z, .i xs.length, .i i] ∧ i ≤ xs.length, fun s => match s with | [_, _, _, _, _, i] => xs.length - i.toI.toNat | _ => 0, ⟨0, by simp [encS, encI], by omega⟩, ?_⟩
  rintro s1 s2 s7 s10 s11 s12 ⟨i, hs, hi⟩
  simp only [List.cons.injEq, and_true] at hs
  obtain ⟨rfl, rfl, rfl, rfl, rfl, rfl⟩ := hs
  simp only [encS, encI, toL_l, toZ_l, toI_i, Int.toNat_natCast, List.length_map]
  have hzl : (xs.zip ps).length = xs.length := by rw [List.length_zip]; omega
  refine selp (fun h => ?_) (fun h => ?_)
  · have hil : i < xs.length := by have h3 : (i : Int) < xs.length := of_decide_eq_true h; omega
    have hiz : i < (xs.zip ps).length := by omega
    have hpl := pick_len n ((xs.zip ps).take i)
    have hpl2 : ((xs.zip ps).take i).length ≤ 12 := by simp; omega
    rw [getD_s hil, getD_i (show i < ps.length by omega), wr1 (by omega)]
    simp only [toI_i, List.length_cons, List.length_nil]
    refine ⟨by omega, by omega, selp (fun h => ?_) (fun h => ?_)⟩
    · have hk : ps[i] = n := by simpa using h
      refine ⟨⟨by omega, by omega⟩, trivial, ⟨i + 1, ?_, by omega⟩, by omega⟩
      rw [flat_take1 hiz]
      simp [pick, hk]
    · have hk : ¬ ps[i] = n := by simpa using h
      refine ⟨trivial, ⟨i + 1, ?_, by omega⟩, by omega⟩
      rw [flat_take1 hiz]
      simp [pick, hk]
  · have hil : i = xs.length := by have h3 : ¬ ((i : Int) < xs.length) := of_decide_eq_false h; omega
    subst hil
    rw [← hzl, List.take_length]
    rfl)

def qOf (t : B) : List N × Bool := (parseL t, parseZ t)

theorem s113 (ts : List B) (z : Bool) (hl : ts.length ≤ 100) : Sat Try.prog S113 113 [encS ts z] [.l ((ts.map qOf).map eQ) false] := v113 (by
  unfold encS
  rw [← r113]
  refine ⟨fun s => ∃ i : Nat, s = [encS ts z, .l (((ts.take i).map qOf).map eQ) false, .i i] ∧ i ≤ ts.length, fun s => match s with | [_, _, i] => ts.length - i.toI.toNat | _ => 0, ⟨0, by simp [encS], by omega⟩, ?_⟩
  rintro s0 s3 s4 ⟨i, hs, hi⟩
  simp only [List.cons.injEq, and_true] at hs
  obtain ⟨rfl, rfl, rfl⟩ := hs
  simp only [encS, toL_l, toZ_l, toI_i, Int.toNat_natCast, List.length_map]
  refine selp (fun h => ?_) (fun h => ?_)
  · have hil : i < ts.length := by have h3 : (i : Int) < ts.length := of_decide_eq_true h; omega
    rw [getD_s hil, wr1 (by omega)]
    have htl : (ts.take i).length ≤ 100 := by simp; omega
    simp only [List.length_cons, List.length_nil]
    refine ⟨by omega, _, _, e151 (s151 ts[i]), ⟨by omega, by omega⟩, trivial, ⟨i + 1, ?_, by omega⟩, by omega⟩
    rw [List.take_succ_eq_append_getElem hil]
    simp only [List.map_append, List.map_cons, List.map_nil, Bool.false_and]
    rfl
  · have hil : i = ts.length := by have h3 : ¬ ((i : Int) < ts.length) := of_decide_eq_false h; omega
    subst hil
    rw [List.take_length])

theorem s119 (ts : List B) (z : Bool) (hl : ts.length ≤ 100) : Sat Try.prog S119 119 [encS ts z] [.l ((ts.map qOf).map eQ) ts.isEmpty] := v119 (by
  unfold encS
  rw [← r119]
  refine ⟨fun s => ∃ i : Nat, s = [.l (((ts.take i).map qOf).map eQ) (ts.take i).isEmpty, encS ts z, .i ts.length, .i i] ∧ i ≤ ts.length, fun s => match s with | [_, _, _, i] => ts.length - i.toI.toNat | _ => 0, ⟨0, by simp [encS], by omega⟩, ?_⟩
  rintro s3 s6 s7 s8 ⟨i, hs, hi⟩
  simp only [List.cons.injEq, and_true] at hs
  obtain ⟨rfl, rfl, rfl, rfl⟩ := hs
  simp only [encS, toL_l, toZ_l, toI_i, Int.toNat_natCast, List.length_map]
  refine selp (fun h => ?_) (fun h => ?_)
  · have hil : i < ts.length := by have h3 : (i : Int) < ts.length := of_decide_eq_true h; omega
    rw [getD_s hil, wr1 (by omega)]
    have htl : (ts.take i).length ≤ 100 := by simp; omega
    simp only [List.length_cons, List.length_nil]
    refine ⟨by omega, _, e160 (s160 ts[i]), ⟨by omega, by omega⟩, trivial, ⟨i + 1, ?_, by omega⟩, by omega⟩
    rw [List.take_succ_eq_append_getElem hil]
    have he : (List.take i ts ++ [ts[i]]).isEmpty = false := by cases List.take i ts <;> rfl
    rw [he]
    simp only [List.map_append, List.map_cons, List.map_nil, List.isEmpty_cons, Bool.and_false]
    rfl
  · have hil : i = ts.length := by have h3 : ¬ ((i : Int) < ts.length) := of_decide_eq_false h; omega
    subst hil
    rw [List.take_length])

theorem wf_inR : ∀ f : Fo, f.wf → inR f.enc
  | .lf n, h => by
    intro m hm h0
    simp only [Fo.enc, List.mem_singleton] at hm
    subst hm
    rcases h with ⟨_, h1, h2⟩ | rfl
    · exact ⟨h1, h2⟩
    · cases h0
  | .un k a, h => by
    intro m hm h0
    simp only [Fo.enc, List.mem_cons] at hm
    rcases hm with rfl | hm
    · have h0 : k = 0 := h0
      have := h.1
      omega
    · exact wf_inR a h.2 m hm h0
  | .nd k a b, h => by
    intro m hm h0
    simp only [Fo.enc, List.mem_cons, List.mem_append] at hm
    rcases hm with rfl | hm | hm
    · have h0 : k = 0 := h0
      have := h.1
      omega
    · exact wf_inR a h.2.1 m hm h0
    · exact wf_inR b h.2.2 m hm h0
theorem parse_inR (t : B) : inR (parseL t) := by
  unfold parseL
  split
  · intro n hn; simp at hn
  · exact wf_inR _ parse_goes.2.2.1

theorem qs_ok (ts : List B) : ∀ q ∈ ts.map qOf, inR q.1 ∧ q.1.length < 4294967296 := by
  intro q hq
  obtain ⟨t, _, rfl⟩ := List.mem_map.mp hq
  exact ⟨parse_inR t, by have := parse_len t; show (parseL t).length < _; omega⟩
def maskT (ts : List B) : Nat := masks (ts.map qOf)
theorem maskT_lt (ts : List B) : maskT ts < 64 := masks_lt _ 0 (by omega) (fun q hq => (qs_ok ts q hq).1)

theorem s115 (l : List Int) (z : Bool) (n : Int) (hl : l.length < 4294967296) : Sat Try.prog S115 115 [encI l z, .i n] [.b (l.contains n)] := v115 (by
  unfold encI
  rw [← r115]
  refine ⟨fun s => ∃ i : Nat, s = [encI l z, .i n, .i i] ∧ i ≤ l.length ∧ (l.take i).contains n = false, fun s => match s with | [_, _, i] => l.length - i.toI.toNat | _ => 0, ⟨0, rfl, by omega, by simp⟩, ?_⟩
  rintro s0 s1 s5 ⟨i, hs, hi, hj⟩
  simp only [List.cons.injEq, and_true] at hs
  obtain ⟨rfl, rfl, rfl⟩ := hs
  simp only [encI, toL_l, toI_i, Int.toNat_natCast, List.length_map]
  refine selp (fun h => ?_) (fun h => ?_)
  · have hil : i < l.length := by have h3 : (i : Int) < l.length := of_decide_eq_true h; omega
    rw [getD_i hil, wr1 (by omega)]
    simp only [toI_i]
    refine ⟨by omega, selp (fun h => ?_) (fun h => ?_)⟩
    · have hk : l[i] = n := by simpa using h
      have : l.contains n = true := by rw [List.contains_iff_mem, ← hk]; exact List.getElem_mem hil
      rw [this]
    · have hk : ¬ l[i] = n := by simpa using h
      refine ⟨trivial, ⟨i + 1, rfl, by omega, ?_⟩, by omega⟩
      rw [List.take_succ_eq_append_getElem hil]
      simp only [List.contains_append, hj, Bool.false_or]
      simp
      exact fun h => hk h.symm
  · have hil : i = l.length := by have h3 : ¬ ((i : Int) < l.length) := of_decide_eq_false h; omega
    subst hil
    rw [List.take_length] at hj
    rw [hj])

/-- The masks of the two parts. -/
def mk1 (xs : List B) (ps : List Int) : Nat := maskT (parts xs ps 1)
def mk2 (xs : List B) (r : B) (ps : List Int) : Nat := maskT (parts xs ps 2 ++ [r])
def comm (xs : List B) (r : B) (ps : List Int) : List Int := bitsI (mk1 xs ps &&& mk2 xs r ps)

theorem bits_len (m : Nat) : (bitsI m).length ≤ 6 := by
  have := List.length_filter_le m.testBit (List.range 6)
  simpa [bitsI, bitsN, toI] using this

theorem bits_and (a b : Nat) : (bitsI a).filter (fun v => (bitsI b).contains v) = bitsI (a &&& b) := by
  unfold bitsI toI bitsN
  rw [List.filter_map, List.filter_filter]
  congr 1
  apply List.filter_congr
  intro v hv
  have hv6 := List.mem_range.mp hv
  rw [Nat.testBit_and]
  have : ((((List.range 6).filter b.testBit).map fun (j : Nat) => (j : Int)).contains (v : Int)) = b.testBit v := by
    cases hb : b.testBit v with
    | true =>
      rw [List.contains_iff_mem]
      exact List.mem_map.mpr ⟨v, List.mem_filter.mpr ⟨hv, hb⟩, rfl⟩
    | false =>
      cases hc : ((((List.range 6).filter b.testBit).map fun (j : Nat) => (j : Int)).contains (v : Int)) with
      | false => rfl
      | true =>
        rw [List.contains_iff_mem] at hc
        obtain ⟨w, hw, he⟩ := List.mem_map.mp hc
        have : w = v := by omega
        subst this
        rw [(List.mem_filter.mp hw).2] at hb
        cases hb
  simp only [Function.comp]
  rw [this, Bool.and_comm]

theorem zip_len {xs : List B} {ps : List Int} (hp : ps.length = xs.length) (n : Int) : (parts xs ps n).length ≤ xs.length := by
  have := pick_len n (xs.zip ps)
  rw [List.length_zip] at this
  unfold parts
  omega

theorem s52 (xs : List B) (z : Bool) (r : B) (ps : List Int) (y : Bool) (hl : xs.length ≤ 12) (hp : ps.length = xs.length) : Sat Try.prog S52 52 [encS xs z, .s r, encI ps y] [encI (comm xs r ps) false] := v52 (by
  have q1 := e114 (s114 xs z ps y 1 hl hp)
  have q2 := e114 (s114 xs z ps y 2 hl hp)
  have z1 := zip_len hp 1
  have z2 := zip_len hp 2
  have f1 := e113 (s113 (parts xs ps 1) false (by omega))
  have f2 := e113 (s113 (parts xs ps 2 ++ [r]) false (by simp; omega))
  have v1 := e112 (s112 ((parts xs ps 1).map qOf) false (by simp; omega) (qs_ok _))
  have v2 := e112 (s112 ((parts xs ps 2 ++ [r]).map qOf) false (by simp; omega) (qs_ok _))
  unfold encS encI at *
  rw [← r52]
  refine ⟨_, q1, _, f1, _, v1, _, q2, ?_, ?_⟩
  · simp only [toL_l, List.length_map, List.length_cons, List.length_nil]
    omega
  have ea : D.l ((D.l ((parts xs ps 2).map D.s) false).toL ++ [D.s r]) ((D.l ((parts xs ps 2).map D.s) false).toZ && [D.s r].isEmpty) = D.l ((parts xs ps 2 ++ [r]).map D.s) false := by simp [toL_l, toZ_l]
  rw [ea]
  refine ⟨_, f2, _, v2, ?_⟩
  refine ⟨fun s => ∃ i : Nat, s = [encI (bitsI (mk1 xs ps)) false, encI (bitsI (mk2 xs r ps)) false, encI (((bitsI (mk1 xs ps)).take i).filter fun v => (bitsI (mk2 xs r ps)).contains v) false, .i i] ∧ i ≤ (bitsI (mk1 xs ps)).length,
    fun s => match s with | [_, _, _, i] => (bitsI (mk1 xs ps)).length - i.toI.toNat | _ => 0, ⟨0, rfl, by omega⟩, ?_⟩
  rintro s7 s8 s9 s10 ⟨i, hs, hi⟩
  simp only [List.cons.injEq, and_true] at hs
  obtain ⟨rfl, rfl, rfl, rfl⟩ := hs
  have b1 := bits_len (mk1 xs ps)
  have b2 := bits_len (mk2 xs r ps)
  simp only [encI, toL_l, toZ_l, toI_i, Int.toNat_natCast, List.length_map]
  refine selp (fun h => ?_) (fun h => ?_)
  · have hil : i < (bitsI (mk1 xs ps)).length := by have h3 : (i : Int) < (bitsI (mk1 xs ps)).length := of_decide_eq_true h; omega
    rw [getD_i hil, wr1 (by omega)]
    have q := e115 (s115 (bitsI (mk2 xs r ps)) false (bitsI (mk1 xs ps))[i] (by omega))
    unfold encI at q
    have hfl : ((((bitsI (mk1 xs ps)).take i).filter fun v => (bitsI (mk2 xs r ps)).contains v)).length ≤ 6 := by
      have := List.length_filter_le (fun v => (bitsI (mk2 xs r ps)).contains v) ((bitsI (mk1 xs ps)).take i)
      have h2 : ((bitsI (mk1 xs ps)).take i).length ≤ 6 := by simp; omega
      omega
    refine ⟨by omega, _, q, ?_⟩
    simp only [List.length_cons, List.length_nil]
    cases hc : (bitsI (mk2 xs r ps)).contains (bitsI (mk1 xs ps))[i] with
    | true =>
      refine selp (fun _ => ⟨by omega, ⟨by omega, by omega⟩, trivial, ⟨i + 1, ?_, by omega⟩, by omega⟩) (fun h => by cases h)
      rw [List.take_succ_eq_append_getElem hil, List.filter_append, List.filter_cons_of_pos hc, List.filter_nil]
      simp only [List.map_append, List.map_cons, List.map_nil, Bool.false_and]
    | false =>
      refine selp (fun h => by cases h) (fun _ => ⟨trivial, ⟨i + 1, ?_, by omega⟩, by omega⟩)
      rw [List.take_succ_eq_append_getElem hil, List.filter_append, List.filter_cons_of_neg (by rw [hc]; simp), List.filter_nil, List.append_nil]
  · have hil : i = (bitsI (mk1 xs ps)).length := by have h3 : ¬ ((i : Int) < (bitsI (mk1 xs ps)).length) := of_decide_eq_false h; omega
    subst hil
    rw [List.take_length, bits_and]
    rfl)
end Go.Pi.CommonVc
