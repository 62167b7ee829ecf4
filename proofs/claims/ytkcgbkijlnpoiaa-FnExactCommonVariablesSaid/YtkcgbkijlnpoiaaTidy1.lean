/- A part of a walk: Tidy1. -/
import Derived.Test.YtkcgbkijlnpoiaaTidyVc
namespace Go.Pi.TidyVc
open Go Go.Pi Go.Proofs

/-- A node. -/
def eN (n : Int × Int) : D := .p (.i n.1) (.p (.i n.2) .u)
def eL (l : List (Int × Int)) (z : Bool) : D := .l (l.map eN) z

theorem wrap_id {x : Int} (h1 : -9223372036854775808 ≤ x) (h2 : x ≤ 9223372036854775807) : IntKind.i64.wrap x = x := by
  simp [IntKind.wrap, IntKind.bits, IntKind.signed]
  omega

theorem selp {b : Bool} {X Y : Prop} (h1 : b = true → X) (h2 : b = false → Y) : sel b X Y := (sel_iff b X Y).mpr ⟨h1, h2⟩

def parts (k : Int) : Int := if k = 2 ∨ k = 3 ∨ k = 4 then 2 else if k = 5 ∨ k = 6 then 1 else 0

theorem s58 (k : Int) : Sat Try.prog S58 58 [.i k] [.i (parts k)] := v58 (by
  rw [← r58]
  simp only [sel_iff, beq_iff_eq, beq_eq_false_iff_ne, List.cons.injEq, D.i.injEq, and_true, parts]
  grind)
theorem s71 (k : Int) : Sat Try.prog S71 71 [.i k] [.i (parts k)] := v71 (by
  rw [← r71]
  simp only [sel_iff, beq_iff_eq, beq_eq_false_iff_ne, List.cons.injEq, D.i.injEq, and_true, parts]
  grind)
theorem s80 (n a b : Int) : Sat Try.prog S80 80 [.i n, .i a, .i b] [.b (decide (a ≤ n) && decide (n ≤ b))] := v80 (by
  rw [← r80]
  simp only [sel_iff]
  simp
  grind)
theorem s37 (n : Int × Int) : Sat Try.prog S37 37 [eN n] [eN n] := v37 (by
  rw [← r37]
  exact ⟨trivial, trivial, trivial, rfl⟩)

theorem getD_eN {l : List (Int × Int)} {i : Nat} (h : i < l.length) : (l.map eN).getD i D.u = eN l[i] := by
  simp [h]

theorem deqN (p q : Int × Int) : Ty.deq (.pair (.int .i64) (.pair (.int .i64) .unit)) (eN p) (eN q) = decide (p = q) := by
  obtain ⟨a, b⟩ := p
  obtain ⟨c, d⟩ := q
  simp only [Ty.deq, eN, D.fst, D.snd, D.toI, Bool.and_true, Prod.mk.injEq]
  by_cases h1 : a = c <;> by_cases h2 : b = d <;> simp [h1, h2]

theorem take_step {a b : List (Int × Int)} {i : Nat} (ha : i < a.length) (hb : i < b.length) (h : a.take i = b.take i) (he : a[i] = b[i]) : a.take (i + 1) = b.take (i + 1) := by
  rw [List.take_add_one, List.take_add_one, h, List.getElem?_eq_getElem ha, List.getElem?_eq_getElem hb, he]

theorem s60 (a b : List (Int × Int)) (za zb : Bool) (ha : a.length < 4294967296) : Sat Try.prog S60 60 [eL a za, eL b zb] [.b (decide (a = b))] := v60 (by
  unfold eL
  rw [← r60]
  refine selp (fun h => ?_) (fun h => ?_)
  · have : a ≠ b := by rintro rfl; simp at h
    simp [this]
  · have hl : a.length = b.length := by
      simp at h
      omega
    refine ⟨fun s => ∃ i : Nat, s = [eL a za, eL b zb, .i i] ∧ i ≤ a.length ∧ a.take i = b.take i, fun s => match s with | [_, _, i] => a.length - i.toI.toNat | _ => 0, ⟨0, rfl, by simp, by simp⟩, ?_⟩
    rintro s0 s1 s5 ⟨i, hs, hi, ht⟩
    simp only [List.cons.injEq, and_true] at hs
    obtain ⟨rfl, rfl, rfl⟩ := hs
    simp only [eL, D.toL, D.toI, List.length_map, Int.toNat_natCast]
    refine selp (fun h => ?_) (fun h => ?_)
    · have hia : i < a.length := by simpa using h
      have hib : i < b.length := by omega
      have w1 : IntKind.i64.wrap ((i : Int) + 1) = ((i + 1 : Nat) : Int) := by rw [wrap_id (by omega) (by omega)]; simp
      rw [getD_eN hia, getD_eN hib, deqN, w1]
      have both : sel (!decide (a[i] = b[i])) ([D.b false] = [D.b (decide (a = b))]) (True ∧ ((∃ i' : Nat, [D.l (a.map eN) za, D.l (b.map eN) zb, D.i ((i + 1 : Nat) : Int)] = [D.l (a.map eN) za, D.l (b.map eN) zb, D.i i'] ∧ i' ≤ a.length ∧ a.take i' = b.take i') ∧ a.length - (i + 1) < a.length - i)) := by
        refine selp (fun h => ?_) (fun h => ?_)
        · have : a ≠ b := by rintro rfl; simp at h
          simp [this]
        · have he : a[i] = b[i] := by simpa using h
          exact ⟨trivial, ⟨i + 1, rfl, by omega, take_step hia hib ht he⟩, by omega⟩
      exact ⟨⟨by omega, by omega⟩, ⟨by omega, by omega⟩, both⟩
    · have hia : i = a.length := by simp at h; omega
      subst hia
      have : a = b := by
        rw [List.take_length, hl, List.take_length] at ht
        exact ht
      simp [this])

abbrev N := Int × Int
def big : Nat := 4294967296

theorem eL_eq (l : List N) (z : Bool) : eL l z = .l (l.map eN) z := rfl

/-- A loop that looks for a bad element. -/
theorem s35 (l : List N) (z : Bool) (hl : l.length < 4294967296) : Sat Try.prog S35 35 [eL l z] [.b (l.all fun n => n.1 != 5 && n.1 != 6)] := v35 (by
  unfold eL
  rw [← r35]
  refine ⟨fun s => ∃ i : Nat, s = [eL l z, .i i] ∧ i ≤ l.length ∧ ((l.take i).all fun n => n.1 != 5 && n.1 != 6) = true, fun s => match s with | [_, i] => l.length - i.toI.toNat | _ => 0, ⟨0, rfl, by simp, by simp⟩, ?_⟩
  rintro s0 s3 ⟨i, hs, hi, ht⟩
  simp only [List.cons.injEq, and_true] at hs
  obtain ⟨rfl, rfl⟩ := hs
  simp only [eL, D.toL, D.toI, List.length_map, Int.toNat_natCast]
  refine selp (fun h => ?_) (fun h => ?_)
  · have hia : i < l.length := by simpa using h
    have w1 : IntKind.i64.wrap ((i : Int) + 1) = ((i + 1 : Nat) : Int) := by rw [wrap_id (by omega) (by omega)]; simp
    have bad : (l[i].1 = 5 ∨ l[i].1 = 6) → [D.b false] = [D.b (l.all fun n => n.1 != 5 && n.1 != 6)] := by
      intro hb
      have : (l.all fun n => n.1 != 5 && n.1 != 6) = false := by
        rw [List.all_eq_false]
        exact ⟨l[i], List.getElem_mem hia, by rcases hb with hb | hb <;> simp [hb]⟩
      rw [this]
    rw [getD_eN hia, w1]
    refine ⟨⟨by omega, by omega⟩, selp (fun h5 => ⟨⟨by omega, by omega⟩, selp (fun h6 => bad (.inr (by simpa [eN, D.fst] using h6))) (fun h6 => ⟨trivial, ⟨i + 1, rfl, by omega, ?_⟩, by omega⟩)⟩) (fun h5 => bad (.inl (by simpa [eN, D.fst] using h5)))⟩
    rw [List.take_add_one, List.getElem?_eq_getElem hia, List.all_append, ht]
    simp [eN, D.fst, D.toI] at h5 h6
    simp [h5, h6]
  · have hia : i = l.length := by simp at h; omega
    subst hia
    rw [List.take_length] at ht
    rw [ht])

theorem s65 : Sat Try.prog S65 65 [] [eL [(1, 0)] false] := v65 (by rw [← r65]; rfl)
theorem s77 : Sat Try.prog S77 77 [] [eL [(4, 0), (1, 0), (1, 0)] false] := v77 (by rw [← r77]; rfl)
theorem s59 (k : Int) (l : List N) (z : Bool) (hl : l.length < 4294967296) : Sat Try.prog S59 59 [.i k, eL l z] [eL ((k, 0) :: l) false] := v59 (by
  unfold eL
  rw [← r59]
  simp only [List.length_map, List.length_cons, List.length_nil]
  exact ⟨⟨by omega, by omega⟩, rfl⟩)
theorem s66 (k : Int) (l : List N) (z : Bool) (m : List N) (y : Bool) (hl : l.length < 4294967296) (hm : m.length < 4294967296) : Sat Try.prog S66 66 [.i k, eL l z, eL m y] [eL ((k, 0) :: (l ++ m)) false] := v66 (by
  unfold eL
  rw [← r66]
  simp only [List.length_map, List.length_cons, List.length_nil, List.length_append]
  refine ⟨⟨by omega, by omega⟩, ⟨by omega, by omega⟩, ?_⟩
  simp [eN])
theorem s123 (l : List N) (z : Bool) (hl : l.length < 4294967296) : Sat Try.prog S123 123 [eL l z] [eL ((4, 0) :: (l ++ [(1, 0)])) false] := v123 (by
  unfold eL
  rw [← r123]
  exact ⟨_, e65 s65, _, e66 (s66 4 l z [(1, 0)] false hl (by simp)), rfl⟩)
theorem s61 : Sat Try.prog S61 61 [] [eL [(4, 0), (1, 0), (1, 0)] false] := v61 (by
  rw [← r61]
  exact ⟨_, e65 s65, _, e123 (s123 [(1, 0)] false (by simp)), rfl⟩)
theorem s62 (l : List N) (z : Bool) (hl : l.length < 4294967296) : Sat Try.prog S62 62 [eL l z] [eL l false] := v62 (by
  unfold eL
  rw [← r62]
  simp only [List.length_map, List.length_nil]
  exact ⟨⟨by omega, by omega⟩, rfl⟩)
theorem s128 (l : List N) (z : Bool) (hl : l.length < 4294967296) (hz : z = true → l = []) : Sat Try.prog S128 128 [eL l z] [eL l z] := v128 (by
  unfold eL
  rw [← r128]
  refine selp (fun h => ?_) (fun h => ?_)
  · rw [hz h, h]; rfl
  · simp only [List.length_map, List.length_nil]
    exact ⟨⟨by omega, by omega⟩, by rw [h]; rfl⟩)
theorem s72 (l : List N) (z : Bool) (hl : l.length < 4294967296) (hz : z = true → l = []) : Sat Try.prog S72 72 [eL l z] [eL l z] := v72 (by
  unfold eL
  rw [← r72]
  exact ⟨_, e128 (s128 l z hl hz), rfl⟩)
theorem s40 (p q : N) : Sat Try.prog S40 40 [eN p, eN q] [.b (decide (p = q))] := v40 (by
  obtain ⟨a, b⟩ := p
  obtain ⟨c, d⟩ := q
  rw [← r40]
  simp only [eN, D.fst, D.snd, D.toI, sel_iff, Prod.mk.injEq]
  by_cases h1 : a = c <;> by_cases h2 : b = d <;> simp [h1, h2])
theorem s127 (k : Int) : Sat Try.prog S127 127 [.i k] [.b (k == 5 || k == 6)] := v127 (by
  rw [← r127]
  by_cases h : k = 5 <;> simp [sel_iff, h])
theorem s126 (n : N) : Sat Try.prog S126 126 [eN n] [.b (n.1 == 5 || n.1 == 6)] := v126 (by
  rw [← r126]
  exact ⟨_, e127 (s127 n.1), rfl⟩)
theorem s109 (n a b : Int) : Sat Try.prog S109 109 [.i n, .i a, .i b] [.b (decide (a ≤ n) && decide (n ≤ b))] := v109 (by
  rw [← r109]
  by_cases h : a ≤ n <;> simp [sel_iff, h])
theorem s84 (n : Int) : Sat Try.prog S84 84 [.i n] [.b (decide (0 ≤ n) && decide (n ≤ 5))] := v84 (by
  rw [← r84]
  exact ⟨_, e109 (s109 n 0 5), rfl⟩)
def okNode (n : N) : Bool := if n.1 = 0 then decide (0 ≤ n.2) && decide (n.2 ≤ 5) else decide (1 ≤ n.1) && decide (n.1 ≤ 6) && decide (n.2 = 0)
theorem s99 (n : N) : Sat Try.prog S99 99 [eN n] [.b (okNode n)] := v99 (by
  rw [← r99]
  refine selp (fun h => ?_) (fun h => ?_)
  · have h : n.1 = 0 := by simpa [eN, D.fst, D.toI] using h
    exact ⟨_, e84 (s84 n.2), by simp [okNode, h]⟩
  · have h : n.1 ≠ 0 := by simpa [eN, D.fst, D.toI] using h
    refine ⟨_, e109 (s109 n.1 1 6), ?_⟩
    simp only [D.toB, sel_iff, okNode, h, if_false, eN, D.fst, D.snd, D.toI]
    by_cases h1 : 1 ≤ n.1 <;> by_cases h2 : n.1 ≤ 6 <;> by_cases h3 : n.2 = 0 <;> simp [h1, h2, h3])
theorem s98 (n : N) : Sat Try.prog S98 98 [eN n] [.b (!okNode n)] := v98 (by
  rw [← r98]
  exact ⟨_, e99 (s99 n), rfl⟩)

def pN (k : Int) : Nat := if k = 2 ∨ k = 3 ∨ k = 4 then 2 else if k = 5 ∨ k = 6 then 1 else 0
theorem parts_pN (k : Int) : parts k = (pN k : Int) := by unfold parts pN; split; rfl; split <;> rfl
theorem pN_le (k : Int) : pN k ≤ 2 := by unfold pN; split; omega; split <;> omega
theorem toI_i (n : Int) : (D.i n).toI = n := rfl
theorem toB_b (n : Bool) : (D.b n).toB = n := rfl
theorem toL_l (l : List D) (z : Bool) : (D.l l z).toL = l := rfl
theorem toZ_l (l : List D) (z : Bool) : (D.l l z).toZ = z := rfl
theorem toL_eL (l : List N) (z : Bool) : (eL l z).toL = l.map eN := rfl
theorem toZ_eL (l : List N) (z : Bool) : (eL l z).toZ = z := rfl
theorem fst_eN (n : N) : (eN n).fst = .i n.1 := rfl
theorem snd_eN (n : N) : (eN n).snd.fst = .i n.2 := rfl

/-- How many nodes stand there until n formulas are whole. -/
def pe : List N → Nat → Option Nat
  | _, 0 => some 0
  | [], _ + 1 => none
  | x :: l, n + 1 => (pe l (n + pN x.1)).map (· + 1)

def peI (l : List N) (i : Nat) : Int := match pe (l.drop i) 1 with | some k => ((i + k : Nat) : Int) | none => -1

theorem s122 (l : List N) (z : Bool) (i : Nat) (hl : l.length < 4294967296) (hi : i ≤ l.length) : Sat Try.prog S122 122 [eL l z, .i i] [.i (peI l i)] := v122 (by
  unfold eL
  rw [← r122]
  refine ⟨fun s => ∃ j op : Nat, s = [eL l z, .i j, .i op] ∧ i ≤ j ∧ j ≤ l.length ∧ op ≤ j + 1 ∧ pe (l.drop i) 1 = (pe (l.drop j) op).map (· + (j - i)), fun s => match s with | [_, j, _] => l.length - j.toI.toNat | _ => 0, ⟨i, 1, rfl, by omega, hi, by omega, by simp⟩, ?_⟩
  rintro s0 s1 s5 ⟨j, op, hs, hj1, hj2, hop, ht⟩
  simp only [List.cons.injEq, and_true] at hs
  obtain ⟨rfl, rfl, rfl⟩ := hs
  simp only [toL_eL, toI_i, List.length_map, Int.toNat_natCast]
  refine selp (fun h => ?_) (fun h => ?_)
  · have hop0 : 0 < op := by simpa using h
    obtain ⟨n, rfl⟩ : ∃ n, op = n + 1 := ⟨op - 1, by omega⟩
    refine selp (fun h => ?_) (fun h => ?_)
    · have hjl : j = l.length := by simp at h; omega
      subst hjl
      simp [peI, ht, pe]
    · have hjl : j < l.length := by simp at h; omega
      rw [getD_eN hjl, fst_eN]
      refine ⟨⟨by omega, by omega⟩, _, e58 (s58 l[j].1), trivial, trivial, ⟨j + 1, n + pN l[j].1, ?_, by omega, by omega, ?_, ?_⟩, ?_⟩
      · have := pN_le l[j].1
        rw [toI_i, parts_pN, wrap_id (by omega) (by omega), wrap_id (x := ((n + 1 : Nat) : Int) - 1) (by omega) (by omega), wrap_id (by omega) (by omega)]
        congr 3
        congr 1
        omega
      · have := pN_le l[j].1; omega
      · rw [ht, List.drop_eq_getElem_cons hjl, pe, Option.map_map]
        congr 1
        funext x
        simp only [Function.comp]
        omega
      · rw [wrap_id (by omega) (by omega)]; omega
  · have hop0 : op = 0 := by simp at h; omega
    subst hop0
    simp [peI, ht, pe]
    omega)

theorem s100 (l : List N) (z : Bool) (i : Nat) (hl : l.length < 4294967296) (hi : i ≤ l.length) : Sat Try.prog S100 100 [eL l z, .i i] [.i (peI l i)] := v100 (by
  unfold eL
  rw [← r100]
  refine ⟨fun s => ∃ j op : Nat, s = [eL l z, .i j, .i op] ∧ i ≤ j ∧ j ≤ l.length ∧ op ≤ j + 1 ∧ pe (l.drop i) 1 = (pe (l.drop j) op).map (· + (j - i)), fun s => match s with | [_, j, _] => l.length - j.toI.toNat | _ => 0, ⟨i, 1, rfl, by omega, hi, by omega, by simp⟩, ?_⟩
  rintro s0 s1 s5 ⟨j, op, hs, hj1, hj2, hop, ht⟩
  simp only [List.cons.injEq, and_true] at hs
  obtain ⟨rfl, rfl, rfl⟩ := hs
  simp only [toL_eL, toI_i, List.length_map, Int.toNat_natCast]
  refine selp (fun h => ?_) (fun h => ?_)
  · have hop0 : 0 < op := by simpa using h
    obtain ⟨n, rfl⟩ : ∃ n, op = n + 1 := ⟨op - 1, by omega⟩
    refine selp (fun h => ?_) (fun h => ?_)
    · have hjl : j = l.length := by simp at h; omega
      subst hjl
      simp [peI, ht, pe]
    · have hjl : j < l.length := by simp at h; omega
      rw [getD_eN hjl, fst_eN]
      refine ⟨⟨by omega, by omega⟩, _, e71 (s71 l[j].1), trivial, trivial, ⟨j + 1, n + pN l[j].1, ?_, by omega, by omega, ?_, ?_⟩, ?_⟩
      · have := pN_le l[j].1
        rw [toI_i, parts_pN, wrap_id (by omega) (by omega), wrap_id (x := (pN l[j].1 : Int) - 1) (by omega) (by omega), wrap_id (by omega) (by omega)]
        congr 3
        congr 1
        omega
      · have := pN_le l[j].1; omega
      · rw [ht, List.drop_eq_getElem_cons hjl, pe, Option.map_map]
        congr 1
        funext x
        simp only [Function.comp]
        omega
      · rw [wrap_id (by omega) (by omega)]; omega
  · have hop0 : op = 0 := by simp at h; omega
    subst hop0
    simp [peI, ht, pe]
    omega)
end Go.Pi.TidyVc
