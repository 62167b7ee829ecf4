/- A part of a walk: masks of variables. -/
import Derived.Test.YtkcgbkijlnpoiaaCommon5
namespace Go.Pi.CommonVc
open Go Go.Pi Go.Proofs Go.Pi.TidyVc Go.Pi.ForgetVc

theorem ofN (m : Nat) : BitVec.ofInt IntKind.i64.bits (m : Int) = BitVec.ofNat 64 m := by
  show BitVec.ofInt 64 (m : Int) = _
  simp
theorem bor {m n : Nat} (hm : m < 64) (hn : n < 64) : IntKind.i64.wrap (((BitVec.ofInt IntKind.i64.bits (m : Int) ||| BitVec.ofInt IntKind.i64.bits (n : Int)).toNat : Nat) : Int) = ((m ||| n : Nat) : Int) ∧ m ||| n < 64 := by
  have h64 : m ||| n < 2 ^ 6 := Nat.or_lt_two_pow (by omega) (by omega)
  rw [ofN, ofN]
  have e : (BitVec.ofNat 64 m ||| BitVec.ofNat 64 n).toNat = m ||| n := by
    rw [BitVec.toNat_or, BitVec.toNat_ofNat, BitVec.toNat_ofNat, Nat.mod_eq_of_lt (by omega), Nat.mod_eq_of_lt (by omega)]
  refine ⟨?_, by omega⟩
  show IntKind.i64.wrap (((BitVec.ofNat 64 m ||| BitVec.ofNat 64 n).toNat : Nat) : Int) = _
  rw [e, wrap_id (by omega) (by omega)]
theorem band {m n : Nat} (hm : m < 64) (hn : n < 64) : IntKind.i64.wrap (((BitVec.ofInt IntKind.i64.bits (m : Int) &&& BitVec.ofInt IntKind.i64.bits (n : Int)).toNat : Nat) : Int) = ((m &&& n : Nat) : Int) ∧ m &&& n < 64 := by
  have h64 : m &&& n ≤ m := Nat.and_le_left
  rw [ofN, ofN]
  have e : (BitVec.ofNat 64 m &&& BitVec.ofNat 64 n).toNat = m &&& n := by
    rw [BitVec.toNat_and, BitVec.toNat_ofNat, BitVec.toNat_ofNat, Nat.mod_eq_of_lt (by omega), Nat.mod_eq_of_lt (by omega)]
  refine ⟨?_, by omega⟩
  show IntKind.i64.wrap (((BitVec.ofNat 64 m &&& BitVec.ofNat 64 n).toNat : Nat) : Int) = _
  rw [e, wrap_id (by omega) (by omega)]

theorem shl {v : Nat} (h : v < 6) : IntKind.i64.wrap ((1 : Int) * 2 ^ (min v IntKind.i64.bits)) = ((2 ^ v : Nat) : Int) ∧ 2 ^ v < 64 := by
  match v, h with
  | 0, _ => exact ⟨rfl, by decide⟩
  | 1, _ => exact ⟨rfl, by decide⟩
  | 2, _ => exact ⟨rfl, by decide⟩
  | 3, _ => exact ⟨rfl, by decide⟩
  | 4, _ => exact ⟨rfl, by decide⟩
  | 5, _ => exact ⟨rfl, by decide⟩

theorem s154 (v : Nat) (h : v < 6) : Sat Try.prog S154 154 [.i v] [.i ((2 ^ v : Nat) : Int)] := v154 (by
  rw [← r154]
  have w : IntKind.u64.wrap (v : Int) = v := by
    match v, h with
    | 0, _ => rfl
    | 1, _ => rfl
    | 2, _ => rfl
    | 3, _ => rfl
    | 4, _ => rfl
    | 5, _ => rfl
  rw [w]
  refine ⟨by omega, ?_⟩
  rw [Int.toNat_natCast, (shl h).1])

def bitsN (m : Nat) : List Nat := (List.range 6).filter m.testBit
def toI (l : List Nat) : List Int := l.map fun (j : Nat) => (j : Int)
def bitsI (m : Nat) : List Int := toI (bitsN m)

theorem bits_end {m i : Nat} (hm : m < 64) (hi : i ≤ 6) (h : m / 2 ^ i = 0) : (List.range i).filter m.testBit = bitsN m := by
  unfold bitsN
  have e : List.range 6 = List.range i ++ (List.range (6 - i)).map (i + ·) := by
    have := @List.range_add i (6 - i)
    rwa [show i + (6 - i) = 6 by omega] at this
  rw [e, List.filter_append]
  have : ((List.range (6 - i)).map (i + ·)).filter m.testBit = [] := by
    rw [List.filter_eq_nil_iff]
    intro j hj
    simp only [List.mem_map, List.mem_range] at hj
    obtain ⟨k, hk, rfl⟩ := hj
    rw [Nat.testBit_eq_decide_div_mod_eq]
    have : m / 2 ^ (i + k) = 0 := by rw [Nat.pow_add, ← Nat.div_div_eq_div_mul, h, Nat.zero_div]
    simp [this]
  rw [this, List.append_nil]

theorem lt6 {m i : Nat} (hm : m < 64) (h : 0 < m / 2 ^ i) : i < 6 := by
  rcases Nat.lt_or_ge i 6 with h6 | h6
  · exact h6
  · have : 2 ^ 6 ≤ 2 ^ i := Nat.pow_le_pow_right (by omega) h6
    rw [Nat.div_eq_of_lt (by omega)] at h
    omega

theorem range_bit (m i : Nat) : (List.range (i + 1)).filter m.testBit = (List.range i).filter m.testBit ++ (if m.testBit i then [i] else []) := by
  rw [List.range_succ, List.filter_append]
  cases h : m.testBit i <;> simp [h]

theorem s155 (m : Nat) (hm : m < 64) : Sat Try.prog S155 155 [.i m] [encI (bitsI m) false] := v155 (by
  rw [← r155]
  refine ⟨fun s => ∃ i : Nat, s = [.i ((m / 2 ^ i : Nat) : Int), encI (toI ((List.range i).filter m.testBit)) false, .i i] ∧ i ≤ 6, fun s => match s with | [_, _, i] => 6 - i.toI.toNat | _ => 0, ⟨0, by simp [encI, toI], by omega⟩, ?_⟩
  rintro s0 s3 s4 ⟨i, hs, hi⟩
  simp only [List.cons.injEq, and_true] at hs
  obtain ⟨rfl, rfl, rfl⟩ := hs
  simp only [encI, toL_l, toZ_l, toI_i, Int.toNat_natCast]
  have hlen : ((toI ((List.range i).filter m.testBit)).map D.i).length ≤ 6 := by
    have := List.length_filter_le m.testBit (List.range i)
    simp only [toI, List.length_map, List.length_range] at *
    omega
  refine selp (fun h => ⟨by omega, ?_⟩) (fun h => ?_)
  · have h3 : ((m / 2 ^ i : Nat) : Int) > 0 := of_decide_eq_true h
    have hi6 : i < 6 := lt6 hm (by generalize m / 2 ^ i = q at h3 ⊢; omega)
    have hsm : m / 2 ^ i ≤ m := Nat.div_le_self _ _
    have ed : IntKind.i64.wrap (((m / 2 ^ i : Nat) : Int).tdiv 2) = ((m / 2 ^ (i + 1) : Nat) : Int) := by
      rw [Int.tdiv_eq_ediv_of_nonneg (by omega), wrap_id (by omega) (by omega), Nat.pow_succ, ← Nat.div_div_eq_div_mul]
      omega
    have em : ((m / 2 ^ i : Nat) : Int).tmod 2 = ((m / 2 ^ i % 2 : Nat) : Int) := by
      rw [Int.tmod_eq_emod_of_nonneg (by omega)]
      omega
    rw [ed, em, wr1 (by omega)]
    have tb := Nat.testBit_eq_decide_div_mod_eq (x := m) (i := i)
    refine selp (fun h => ?_) (fun h => ?_)
    · have h1 : m / 2 ^ i % 2 = 1 := by
        have : ((m / 2 ^ i % 2 : Nat) : Int) = 1 := by simpa using h
        omega
      rw [decide_eq_true h1] at tb
      simp only [List.length_cons, List.length_nil]
      refine ⟨⟨by omega, by omega⟩, trivial, by omega, ⟨i + 1, ?_, by omega⟩, by omega⟩
      rw [range_bit, tb]
      simp [toI]
    · have h1 : ¬ m / 2 ^ i % 2 = 1 := by
        intro h1
        rw [h1] at h
        cases h
      rw [decide_eq_false h1] at tb
      refine ⟨trivial, by omega, ⟨i + 1, ?_, by omega⟩, by omega⟩
      rw [range_bit, tb]
      simp
  · have h3 : ¬ ((m / 2 ^ i : Nat) : Int) > 0 := of_decide_eq_false h
    rw [bits_end hm hi (by generalize m / 2 ^ i = q at h3 ⊢; omega)]
    rfl)

theorem s118 (m i : Nat) (hm : m < 64) (hi : i < 6) : Sat Try.prog S118 118 [.i m, .i i] [.b (m.testBit i)] := v118 (by
  rw [← r118]
  refine ⟨by omega, trivial, ?_⟩
  have e1 : min ((i : Int)).toNat IntKind.i64.bits = i := by
    show min ((i : Int)).toNat 64 = i
    rw [Int.toNat_natCast]; omega
  have e2 : (m : Int).fdiv (2 ^ i) = ((m / 2 ^ i : Nat) : Int) := by
    rw [Int.fdiv_eq_ediv_of_nonneg _ (by exact Int.le_of_lt (Int.pow_pos (by decide)))]
    simp
  have hsm : m / 2 ^ i ≤ m := Nat.div_le_self _ _
  rw [e1, e2]
  have := (band (m := m / 2 ^ i) (n := 1) (by omega) (by omega)).1
  have h1 : ((1 : Nat) : Int) = 1 := rfl
  rw [h1] at this
  rw [this, Nat.testBit_eq_decide_div_mod_eq, Nat.and_one_is_mod]
  by_cases h : m / 2 ^ i % 2 = 1
  · simp [h]
  · have : m / 2 ^ i % 2 = 0 := by omega
    simp [this])

theorem s54 (m : Nat) (hm : m < 64) : Sat Try.prog S54 54 [.i m] [encI (bitsI m) (bitsI m).isEmpty] := v54 (by
  rw [← r54]
  refine ⟨fun s => ∃ i : Nat, s = [.i m, encI (toI ((List.range i).filter m.testBit)) (toI ((List.range i).filter m.testBit)).isEmpty, .i i] ∧ i ≤ 6, fun s => match s with | [_, _, i] => 6 - i.toI.toNat | _ => 0, ⟨0, by simp [encI, toI], by omega⟩, ?_⟩
  rintro s0 s3 s4 ⟨i, hs, hi⟩
  simp only [List.cons.injEq, and_true] at hs
  obtain ⟨rfl, rfl, rfl⟩ := hs
  simp only [encI, toL_l, toZ_l, toI_i, Int.toNat_natCast]
  have hlen : ((toI ((List.range i).filter m.testBit)).map D.i).length ≤ 6 := by
    have := List.length_filter_le m.testBit (List.range i)
    simp only [toI, List.length_map, List.length_range] at *
    omega
  have e1 : min i IntKind.i64.bits = i := by
    show min i 64 = i
    omega
  have e2 : (m : Int).fdiv (2 ^ i) = ((m / 2 ^ i : Nat) : Int) := by
    rw [Int.fdiv_eq_ediv_of_nonneg _ (by exact Int.le_of_lt (Int.pow_pos (by decide)))]
    simp
  refine ⟨by omega, selp (fun h => ?_) (fun h => ?_)⟩
  · have h3 : (m : Int).fdiv (2 ^ (min i IntKind.i64.bits)) > 0 := of_decide_eq_true h
    rw [e1, e2] at h3
    have hi6 : i < 6 := lt6 hm (by generalize m / 2 ^ i = q at h3 ⊢; omega)
    rw [wr1 (by omega)]
    refine ⟨_, e118 (s118 m i hm hi6), ?_⟩
    cases tb : m.testBit i with
    | true =>
      refine selp (fun _ => ?_) (fun h => by cases h)
      simp only [List.length_cons, List.length_nil]
      refine ⟨⟨by omega, by omega⟩, trivial, ⟨i + 1, ?_, by omega⟩, by omega⟩
      rw [range_bit, tb]
      simp [toI]
    | false =>
      refine selp (fun h => by cases h) (fun _ => ⟨trivial, ⟨i + 1, ?_, by omega⟩, by omega⟩)
      rw [range_bit, tb]
      simp
  · have h3 : ¬ (m : Int).fdiv (2 ^ (min i IntKind.i64.bits)) > 0 := of_decide_eq_false h
    rw [e1, e2] at h3
    rw [bits_end hm hi (by generalize m / 2 ^ i = q at h3 ⊢; omega)]
    rfl)

def stepM (m : Nat) (n : N) : Nat := if n.1 = 0 then m ||| 2 ^ n.2.toNat else m
def maskOf (l : List N) : Nat := l.foldl stepM 0
theorem stepM_lt {m : Nat} {n : N} (hm : m < 64) (h : n.1 = 0 → 0 ≤ n.2 ∧ n.2 ≤ 5) : stepM m n < 64 := by
  unfold stepM
  split
  · rename_i h0
    have := h h0
    exact (bor hm (shl (v := n.2.toNat) (by omega)).2).2
  · exact hm
theorem mask_lt : ∀ (l : List N) (m : Nat), m < 64 → inR l → l.foldl stepM m < 64
  | [], m, hm, _ => hm
  | n :: l, m, hm, h => mask_lt l _ (stepM_lt hm (h n (by simp))) (fun k hk => h k (by simp [hk]))
theorem inR_take {l : List N} (h : inR l) (i : Nat) : inR (l.take i) := fun n hn => h n (List.mem_of_mem_take hn)
theorem fold_take {α β : Type} {f : β → α → β} {b : β} {l : List α} {i : Nat} (h : i < l.length) : (l.take (i + 1)).foldl f b = f ((l.take i).foldl f b) l[i] := by
  rw [List.take_succ_eq_append_getElem h, List.foldl_append]
  rfl

theorem s153 (l : List N) (z : Bool) (hl : l.length < 4294967296) (hr : inR l) : Sat Try.prog S153 153 [eL l z] [encI (bitsI (maskOf l)) false] := v153 (by
  unfold eL
  rw [← r153]
  refine ⟨fun s => ∃ i : Nat, s = [eL l z, .i (((l.take i).foldl stepM 0 : Nat) : Int), .i i] ∧ i ≤ l.length, fun s => match s with | [_, _, i] => l.length - i.toI.toNat | _ => 0, ⟨0, by simp [eL], by omega⟩, ?_⟩
  rintro s0 s3 s4 ⟨i, hs, hi⟩
  simp only [List.cons.injEq, and_true] at hs
  obtain ⟨rfl, rfl, rfl⟩ := hs
  simp only [toL_eL, toI_i, Int.toNat_natCast, List.length_map]
  have hmk := mask_lt (l.take i) 0 (by omega) (inR_take hr i)
  refine selp (fun h => ?_) (fun h => ?_)
  · have hil : i < l.length := by have h3 : (i : Int) < l.length := of_decide_eq_true h; omega
    rw [getD_eN hil, fst_eN, snd_eN, wr1 (by omega)]
    simp only [toI_i]
    have hk := hr _ (List.getElem_mem hil)
    refine ⟨by omega, selp (fun h => ⟨by omega, ?_⟩) (fun h => ⟨trivial, ⟨i + 1, ?_, by omega⟩, by omega⟩)⟩
    · have h0 : l[i].1 = 0 := by simpa using h
      have hr2 := hk h0
      obtain ⟨v, hv⟩ : ∃ v : Nat, l[i].2 = v := ⟨l[i].2.toNat, by omega⟩
      have hv6 : v < 6 := by omega
      rw [hv]
      refine ⟨_, e154 (s154 v hv6), trivial, trivial, ⟨i + 1, ?_, by omega⟩, by omega⟩
      simp only [toI_i]
      rw [(bor hmk (shl hv6).2).1, fold_take hil]
      simp [stepM, h0, hv]
    · have h0 : ¬ l[i].1 = 0 := by simpa using h
      rw [fold_take hil]
      simp [stepM, h0]
  · have hil : i = l.length := by have h3 : ¬ ((i : Int) < l.length) := of_decide_eq_false h; omega
    subst hil
    rw [List.take_length] at hmk ⊢
    exact ⟨_, e155 (s155 _ hmk), rfl⟩)

theorem s121 (l : List N) (z : Bool) (hl : l.length < 4294967296) (hr : inR l) : Sat Try.prog S121 121 [eL l z] [.i ((maskOf l : Nat) : Int)] := v121 (by
  unfold eL
  rw [← r121]
  refine ⟨fun s => ∃ i : Nat, s = [.i (((l.take i).foldl stepM 0 : Nat) : Int), eL l z, .i l.length, .i i] ∧ i ≤ l.length, fun s => match s with | [_, _, _, i] => l.length - i.toI.toNat | _ => 0, ⟨0, by simp [eL], by omega⟩, ?_⟩
  rintro s3 s6 s7 s8 ⟨i, hs, hi⟩
  simp only [List.cons.injEq, and_true] at hs
  obtain ⟨rfl, rfl, rfl, rfl⟩ := hs
  simp only [toL_eL, toI_i, Int.toNat_natCast, List.length_map]
  have hmk := mask_lt (l.take i) 0 (by omega) (inR_take hr i)
  refine selp (fun h => ?_) (fun h => ?_)
  · have hil : i < l.length := by have h3 : (i : Int) < l.length := of_decide_eq_true h; omega
    rw [getD_eN hil, fst_eN, snd_eN, wr1 (by omega)]
    simp only [toI_i]
    have hk := hr _ (List.getElem_mem hil)
    refine ⟨by omega, trivial, selp (fun h => ?_) (fun h => ⟨trivial, ⟨i + 1, ?_, by omega⟩, by omega⟩)⟩
    · have h0 : l[i].1 = 0 := by simpa using h
      have hr2 := hk h0
      obtain ⟨v, hv⟩ : ∃ v : Nat, l[i].2 = v := ⟨l[i].2.toNat, by omega⟩
      have hv6 : v < 6 := by omega
      rw [hv, Int.toNat_natCast, (shl hv6).1]
      refine ⟨by omega, trivial, trivial, ⟨i + 1, ?_, by omega⟩, by omega⟩
      rw [(bor hmk (shl hv6).2).1, fold_take hil]
      simp [stepM, h0, hv]
    · have h0 : ¬ l[i].1 = 0 := by simpa using h
      rw [fold_take hil]
      simp [stepM, h0]
  · have hil : i = l.length := by have h3 : ¬ ((i : Int) < l.length) := of_decide_eq_false h; omega
    subst hil
    rw [List.take_length]
    rfl)

def orB (m : Nat) (l : List Nat) : Nat := l.foldl (fun m v => m ||| 2 ^ v) m
theorem orB_or : ∀ (l : List Nat) (m : Nat), orB m l = m ||| orB 0 l
  | [], m => by simp [orB]
  | v :: l, m => by
    have h1 := orB_or l (m ||| 2 ^ v)
    have h2 := orB_or l (0 ||| 2 ^ v)
    unfold orB at *
    simp only [List.foldl_cons]
    rw [h1, h2, Nat.zero_or, Nat.or_assoc]
theorem orB_bits : ∀ x, x < 64 → orB 0 (bitsN x) = x := by decide +kernel
theorem bitsN_lt {x v : Nat} (h : v ∈ bitsN x) : v < 6 := by
  unfold bitsN at h
  exact List.mem_range.mp (List.mem_filter.mp h).1
theorem orB_lt : ∀ (l : List Nat) (m : Nat), m < 64 → (∀ v ∈ l, v < 6) → orB m l < 64
  | [], m, hm, _ => hm
  | v :: l, m, hm, h => orB_lt l _ (bor hm (shl (h v (by simp))).2).2 (fun w hw => h w (by simp [hw]))

def masks (qs : List (List N × Bool)) : Nat := qs.foldl (fun m q => m ||| maskOf q.1) 0
theorem masks_lt : ∀ (qs : List (List N × Bool)) (m : Nat), m < 64 → (∀ q ∈ qs, inR q.1) → qs.foldl (fun m q => m ||| maskOf q.1) m < 64
  | [], m, hm, _ => hm
  | q :: qs, m, hm, h => masks_lt qs _ (bor hm (mask_lt q.1 0 (by omega) (h q (by simp)))).2 (fun k hk => h k (by simp [hk]))

theorem toI_get {l : List Nat} {i : Nat} (h : i < l.length) : ((toI l).map D.i).getD i D.u = .i (l[i] : Int) := by
  have h' : i < (toI l).length := by simpa [toI] using h
  rw [getD_i h']
  simp [toI]

theorem s112 (qs : List (List N × Bool)) (z : Bool) (hl : qs.length < 4294967296) (hq : ∀ q ∈ qs, inR q.1 ∧ q.1.length < 4294967296) : Sat Try.prog S112 112 [.l (qs.map eQ) z] [encI (bitsI (masks qs)) false] := v112 (by
  rw [← r112]
  refine ⟨fun s => ∃ i : Nat, s = [.l (qs.map eQ) z, .i (((qs.take i).foldl (fun m q => m ||| maskOf q.1) 0 : Nat) : Int), .i i] ∧ i ≤ qs.length, fun s => match s with | [_, _, i] => qs.length - i.toI.toNat | _ => 0, ⟨0, by simp, by omega⟩, ?_⟩
  rintro s0 s3 s4 ⟨i, hs, hi⟩
  simp only [List.cons.injEq, and_true] at hs
  obtain ⟨rfl, rfl, rfl⟩ := hs
  simp only [toL_l, toI_i, Int.toNat_natCast, List.length_map]
  have hmk := masks_lt (qs.take i) 0 (by omega) (fun q hq' => (hq q (List.mem_of_mem_take hq')).1)
  refine selp (fun h => ?_) (fun h => ?_)
  · have hil : i < qs.length := by have h3 : (i : Int) < qs.length := of_decide_eq_true h; omega
    obtain ⟨k1, k2⟩ := hq _ (List.getElem_mem hil)
    have hx : maskOf qs[i].1 < 64 := mask_lt qs[i].1 0 (by omega) k1
    rw [getD_eQ hil]
    refine ⟨by omega, _, e153 (s153 qs[i].1 qs[i].2 k2 k1), ?_⟩
    refine ⟨fun s => ∃ k : Nat, s = [.l (qs.map eQ) z, .i ((orB ((qs.take i).foldl (fun m q => m ||| maskOf q.1) 0) ((bitsN (maskOf qs[i].1)).take k) : Nat) : Int), .i i, encI (bitsI (maskOf qs[i].1)) false, .i k] ∧ k ≤ (bitsN (maskOf qs[i].1)).length,
      fun s => match s with | [_, _, _, _, k] => (bitsN (maskOf qs[i].1)).length - k.toI.toNat | _ => 0, ⟨0, by simp [orB], by omega⟩, ?_⟩
    rintro t0 t3 t4 t5 t6 ⟨k, hs, hk⟩
    simp only [List.cons.injEq, and_true] at hs
    obtain ⟨rfl, rfl, rfl, rfl, rfl⟩ := hs
    have hbl : (bitsN (maskOf qs[i].1)).length ≤ 6 := by
      have := List.length_filter_le (maskOf qs[i].1).testBit (List.range 6)
      simpa [bitsN] using this
    have hlen : ((bitsI (maskOf qs[i].1)).map D.i).length = (bitsN (maskOf qs[i].1)).length := by simp [bitsI, toI]
    simp only [encI, toL_l, toI_i, Int.toNat_natCast, hlen]
    have hob := orB_lt ((bitsN (maskOf qs[i].1)).take k) _ hmk (fun v hv => bitsN_lt (List.mem_of_mem_take hv))
    refine selp (fun h => ?_) (fun h => ?_)
    · have hkl : k < (bitsN (maskOf qs[i].1)).length := by have h3 : (k : Int) < ((bitsN (maskOf qs[i].1)).length : Int) := of_decide_eq_true h; omega
      have hv6 := bitsN_lt (List.getElem_mem hkl)
      unfold bitsI
      rw [toI_get hkl, wr1 (by omega)]
      refine ⟨by omega, _, e154 (s154 _ hv6), trivial, trivial, ⟨k + 1, ?_, by omega⟩, by omega⟩
      simp only [toI_i]
      rw [(bor hob (shl hv6).2).1]
      unfold orB
      rw [fold_take hkl]
    · have hkl : k = (bitsN (maskOf qs[i].1)).length := by have h3 : ¬ ((k : Int) < ((bitsN (maskOf qs[i].1)).length : Int)) := of_decide_eq_false h; omega
      subst hkl
      rw [List.take_length, orB_or, orB_bits _ hx, wr1 (by omega)]
      refine ⟨trivial, ⟨i + 1, ?_, by omega⟩, by omega⟩
      rw [fold_take hil]
  · have hil : i = qs.length := by have h3 : ¬ ((i : Int) < qs.length) := of_decide_eq_false h; omega
    subst hil
    rw [List.take_length] at hmk ⊢
    exact ⟨_, e155 (s155 _ hmk), rfl⟩)
end Go.Pi.CommonVc
