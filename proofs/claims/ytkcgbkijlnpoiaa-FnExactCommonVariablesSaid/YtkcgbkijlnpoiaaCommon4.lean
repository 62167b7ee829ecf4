/- A part of a walk: the texts of formulas. -/
import Derived.Test.YtkcgbkijlnpoiaaCommon3
namespace Go.Pi.CommonVc
open Go Go.Pi Go.Proofs Go.Pi.TidyVc Go.Pi.ForgetVc

def Fo.hd : Fo → N
  | .lf n => n
  | .un k _ => (k, 0)
  | .nd k _ _ => (k, 0)
def Fo.tl : Fo → List N
  | .lf _ => []
  | .un _ a => a.enc
  | .nd _ a b => a.enc ++ b.enc
theorem enc_hd (f : Fo) : f.enc = f.hd :: f.tl := by cases f <;> rfl
theorem enc_pos (f : Fo) : 1 ≤ f.enc.length := by rw [enc_hd]; simp

theorem pe_fo : ∀ (f : Fo) (r : List N) (n : Nat), f.wf → pe (f.enc ++ r) (n + 1) = (pe r n).map (· + f.enc.length)
  | .lf x, r, n, h => by
    have : pN x.1 = 0 := by
      rcases h with ⟨h, _⟩ | rfl
      · rw [h]; rfl
      · rfl
    simp [Fo.enc, pe, this]
  | .un k a, r, n, h => by
    have hp : pN k = 1 := by rcases h.1 with rfl | rfl <;> rfl
    simp only [Fo.enc, List.cons_append, pe, hp]
    rw [pe_fo a r n h.2, Option.map_map]
    congr 1
  | .nd k a b, r, n, h => by
    have hp : pN k = 2 := by rcases h.1 with rfl | rfl | rfl <;> rfl
    simp only [Fo.enc, List.cons_append, List.append_assoc, pe, hp]
    show Option.map _ (pe (a.enc ++ (b.enc ++ r)) (n + 1 + 1)) = _
    rw [pe_fo a _ (n + 1) h.2.1, pe_fo b _ n h.2.2, Option.map_map, Option.map_map]
    congr 1
    funext x
    simp
    omega

theorem pe_nil0 (l : List N) : pe l 0 = some 0 := by cases l <;> rfl

theorem cutl (k : Int) (a b : Fo) : cutN (Fo.nd k a b).enc 1 (1 + a.enc.length) = a.enc := by simp [cutN, Fo.enc, Nat.add_comm 1]
theorem cutr (k : Int) (a b : Fo) (m : Nat) (hm : 1 + a.enc.length + b.enc.length ≤ m) : cutN (Fo.nd k a b).enc (1 + a.enc.length) m = b.enc := by
  unfold cutN
  rw [List.take_of_length_le (by simp [Fo.enc]; omega)]
  simp [Fo.enc, Nat.add_comm 1]
theorem cutu (k : Int) (a : Fo) : cutN (Fo.un k a).enc 1 (1 + a.enc.length) = a.enc := by simp [cutN, Fo.enc, Nat.add_comm 1]
theorem pel (k : Int) (a b : Fo) (h : a.wf) : pe ((Fo.nd k a b).enc.drop 1) 1 = some a.enc.length := by
  simp only [Fo.enc, List.drop_succ_cons, List.drop_zero]
  rw [pe_fo a _ 0 h, pe_nil0]
  simp
theorem per (k : Int) (a b : Fo) (h : b.wf) : pe ((Fo.nd k a b).enc.drop (1 + a.enc.length)) 1 = some b.enc.length := by
  have : (Fo.nd k a b).enc.drop (1 + a.enc.length) = b.enc ++ [] := by simp [Fo.enc, Nat.add_comm 1]
  rw [this, pe_fo b [] 0 h, pe_nil0]
  simp
theorem peu (k : Int) (a : Fo) (h : a.wf) : pe ((Fo.un k a).enc.drop 1) 1 = some a.enc.length := by
  have : (Fo.un k a).enc.drop 1 = a.enc ++ [] := by simp [Fo.enc]
  rw [this, pe_fo a [] 0 h, pe_nil0]
  simp

def br (s : ByteArray) : ByteArray := ((⟨#[40]⟩ : ByteArray) ++ s) ++ (⟨#[41]⟩ : ByteArray)
def wrp (own lvl : Int) (s : ByteArray) : ByteArray := if own < lvl then br s else s
def Fo.lev : Fo → Int
  | .nd k _ b => if k = 4 then (if b.hd.1 = 1 then 3 else 0) else if k = 3 then 1 else 2
  | _ => 3
def Fo.tx : Fo → ByteArray
  | .lf n => if n.1 = 0 then LETT.extract n.2.toNat (n.2 + 1).toNat else (⟨#[70]⟩ : ByteArray)
  | .un k a => if k = 5 then (⟨#[91, 93]⟩ : ByteArray) ++ wrp a.lev 3 a.tx else (⟨#[60, 62]⟩ : ByteArray) ++ wrp a.lev 3 a.tx
  | .nd k a b =>
    if k = 2 then (wrp a.lev 2 a.tx ++ (⟨#[38]⟩ : ByteArray)) ++ wrp b.lev 3 b.tx
    else if k = 3 then (wrp a.lev 1 a.tx ++ (⟨#[124]⟩ : ByteArray)) ++ wrp b.lev 2 b.tx
    else if b.hd.1 = 1 then (if a.hd.1 = 1 then (⟨#[84]⟩ : ByteArray) else (⟨#[126]⟩ : ByteArray) ++ wrp a.lev 3 a.tx)
    else (wrp a.lev 1 a.tx ++ (⟨#[62]⟩ : ByteArray)) ++ wrp b.lev 0 b.tx

theorem wrp_size (o l : Int) (s : ByteArray) : (wrp o l s).size ≤ s.size + 2 := by
  unfold wrp br
  split
  · simp [ByteArray.size_append]; show 1 + s.size + 1 ≤ _; omega
  · omega

theorem tx_size : ∀ f : Fo, f.tx.size + 2 ≤ 8 * f.enc.length
  | .lf n => by
    unfold Fo.tx
    split
    · simp only [Fo.enc, List.length_cons, List.length_nil, ByteArray.size_extract]
      have : LETT.size = 6 := rfl
      rw [this]
      omega
    · simp [Fo.enc]; decide
  | .un k a => by
    have h1 := tx_size a
    have h2 := wrp_size a.lev 3 a.tx
    unfold Fo.tx
    split
    · simp only [ByteArray.size_append, Fo.enc, List.length_cons]
      show 2 + _ + 2 ≤ _
      omega
    · simp only [ByteArray.size_append, Fo.enc, List.length_cons]
      show 2 + _ + 2 ≤ _
      omega
  | .nd k a b => by
    have h1 := tx_size a
    have h2 := tx_size b
    have w := fun o l => wrp_size o l a.tx
    have w' := fun o l => wrp_size o l b.tx
    unfold Fo.tx
    split
    · simp only [ByteArray.size_append, Fo.enc, List.length_cons, List.length_append]
      have := w a.lev 2; have := w' b.lev 3
      show _ + 1 + _ + 2 ≤ _
      omega
    split
    · simp only [ByteArray.size_append, Fo.enc, List.length_cons, List.length_append]
      have := w a.lev 1; have := w' b.lev 2
      show _ + 1 + _ + 2 ≤ _
      omega
    split
    · split
      · simp only [Fo.enc, List.length_cons, List.length_append]
        show 1 + 2 ≤ _
        omega
      · simp only [ByteArray.size_append, Fo.enc, List.length_cons, List.length_append]
        have := w a.lev 3
        show 1 + _ + 2 ≤ _
        omega
    · simp only [ByteArray.size_append, Fo.enc, List.length_cons, List.length_append]
      have := w a.lev 1; have := w' b.lev 0
      show _ + 1 + _ + 2 ≤ _
      omega

theorem get0 (f : Fo) : (f.enc.map eN).getD 0 D.u = eN f.hd := by rw [enc_hd]; rfl
theorem br_ok {s : ByteArray} (h : s.size ≤ 1000000) : (⟨#[40]⟩ : ByteArray).size + s.size ≤ 9223372036854775807 ∧ ((⟨#[40]⟩ : ByteArray) ++ s).size + (⟨#[41]⟩ : ByteArray).size ≤ 9223372036854775807 := by
  simp only [ByteArray.size_append]
  show 1 + s.size ≤ _ ∧ 1 + s.size + 1 ≤ _
  omega
theorem hd_one {f : Fo} (w : f.wf) (h : f.hd.1 = 1) : f.enc = [(1, 0)] := by
  cases f with
  | lf n =>
    rcases w with ⟨h0, _⟩ | rfl
    · have h : n.1 = 1 := h; omega
    · rfl
  | un k a => have h : k = 1 := h; have := w.1; omega
  | nd k a b => have h : k = 1 := h; have := w.1; omega

theorem isT (k : Int) (a b : Fo) (wa : a.wf) (wb : b.wf) : (Fo.nd 4 a b).enc = [(4, 0), (1, 0), (1, 0)] ↔ (a.hd.1 = 1 ∧ b.hd.1 = 1) := by
  constructor
  · intro h
    simp only [Fo.enc, List.cons.injEq, true_and] at h
    have ha := enc_pos a
    have hb := enc_pos b
    have hlen := congrArg List.length h
    simp at hlen
    rw [enc_hd a, enc_hd b] at h
    have e1 : a.tl = [] := by
      rw [enc_hd a] at hlen; simp at hlen
      exact List.length_eq_zero_iff.mp (by omega)
    rw [e1] at h
    simp at h
    exact ⟨by rw [h.1], by rw [h.2.1]⟩
  · rintro ⟨h1, h2⟩
    simp [Fo.enc, hd_one wa h1, hd_one wb h2]

theorem s179 : ∀ (f : Fo) (z : Bool) (lvl : Int), f.wf → f.enc.length ≤ 100000 → Sat Try.prog S179 179 [eL f.enc z, .i lvl] [.s (wrp f.lev lvl f.tx)]
  | f, z, lvl, w, hl => v179 (by
    unfold eL
    rw [← r179]
    have hsz := tx_size f
    have hpos := enc_pos f
    have hb : (0 : Int) ≤ 0 ∧ (0 : Int) < ((f.enc.map eN).length : Int) := by rw [List.length_map]; omega
    refine ⟨fun l => l = [.i lvl, .i f.lev, .s f.tx], ⟨hb, ?_⟩, ?_⟩
    · rw [show ((0 : Int)).toNat = 0 from rfl, get0, fst_eN, toI_i]
      match f, w, hl with
      | .lf n, w, hl =>
        refine selp (fun h => ?_) (fun h => ?_)
        · have h0 : n.1 = 0 := by simpa [Fo.hd] using h
          have hr : 0 ≤ n.2 ∧ n.2 ≤ 5 := by
            rcases w with ⟨_, h1, h2⟩ | rfl
            · exact ⟨h1, h2⟩
            · cases h0
          have w1 : IntKind.i64.wrap (n.2 + 1) = n.2 + 1 := wrap_id (by omega) (by omega)
          simp only [snd_eN, toI_i, Fo.hd, w1, and_self]
          refine ⟨hb, hb, trivial, ⟨by omega, by omega, ?_⟩, ?_⟩
          · show n.2 + 1 ≤ 6; omega
          · simp only [Fo.tx, h0, if_true]; rfl
        · have h0 : ¬ n.1 = 0 := by simpa [Fo.hd] using h
          have h1 : n = (1, 0) := by
            rcases w with ⟨h1, _⟩ | h1
            · exact absurd h1 h0
            · exact h1
          subst h1
          exact selp (fun _ => rfl) (fun h => by cases h)
      | .un k a, w, hl =>
        have hla : a.enc.length ≤ 100000 := by simp [Fo.enc] at hl; omega
        have hta := tx_size a
        have hwa := wrp_size a.lev 3 a.tx
        have hcut : (cut ((Fo.un k a).enc.map eN) 1 (((Fo.un k a).enc.map eN).length : Int)) = a.enc.map eN := by
          simp [Fo.enc, cut]
          rw [List.take_of_length_le (by simp)]
        have hn : (0 : Int) ≤ 1 ∧ (1 : Int) ≤ (((Fo.un k a).enc.map eN).length : Int) ∧ (((Fo.un k a).enc.map eN).length : Int) ≤ (((Fo.un k a).enc.map eN).length : Int) ∧ (((Fo.un k a).enc.map eN).length : Int) ≤ (((Fo.un k a).enc.map eN).length : Int) := by
          have := hb.2; omega
        simp only [Fo.hd]
        rcases w.1 with rfl | rfl
        · refine selp (fun h => by cases h) (fun _ => selp (fun h => by cases h) (fun _ => selp (fun _ => ⟨hn, ?_⟩) (fun h => by cases h)))
          rw [hcut]
          refine ⟨_, e179 (s179 a z 3 w.2 hla), ?_, rfl⟩
          simp only [toS_s]
          show 2 + _ ≤ _
          omega
        · refine selp (fun h => by cases h) (fun _ => selp (fun h => by cases h) (fun _ => selp (fun h => by cases h) (fun _ => selp (fun _ => ⟨hn, ?_⟩) (fun h => by cases h))))
          rw [hcut]
          refine ⟨_, e179 (s179 a z 3 w.2 hla), ?_, rfl⟩
          simp only [toS_s]
          show 2 + _ ≤ _
          omega
      | .nd k a b, w, hl =>
        have hlab : (Fo.nd k a b).enc.length = a.enc.length + b.enc.length + 1 := by simp [Fo.enc]
        have hla : a.enc.length ≤ 100000 := by omega
        have hlb : b.enc.length ≤ 100000 := by omega
        have hta := tx_size a
        have htb := tx_size b
        have hwa := fun l => wrp_size a.lev l a.tx
        have hwb := fun l => wrp_size b.lev l b.tx
        have q63 : E.sat 63 [] [eL (Fo.nd k a b).enc z] [eL a.enc z] := by
          have := s63 (Fo.nd k a b).enc z a.enc.length (by omega) (by omega) (pel k a b w.2.1)
          rw [cutl] at this
          exact e63 this
        have q64 : E.sat 64 [] [eL (Fo.nd k a b).enc z] [eL b.enc z] := by
          have := s64 (Fo.nd k a b).enc z a.enc.length (by omega) (by omega) (pel k a b w.2.1)
          rw [cutr k a b _ (by omega)] at this
          exact e64 this
        have hone : (⟨#[38]⟩ : ByteArray).size = 1 ∧ (⟨#[124]⟩ : ByteArray).size = 1 ∧ (⟨#[62]⟩ : ByteArray).size = 1 ∧ (⟨#[126]⟩ : ByteArray).size = 1 := ⟨rfl, rfl, rfl, rfl⟩
        have bin : ∀ (la lb : Int) (c : ByteArray), c.size = 1 → (wrp a.lev la a.tx).size + c.size ≤ 9223372036854775807 ∧ (wrp a.lev la a.tx ++ c).size + (wrp b.lev lb b.tx).size ≤ 9223372036854775807 := by
          intro la lb c hc
          have := hwa la
          have := hwb lb
          simp only [ByteArray.size_append, hc]
          omega
        simp only [Fo.hd]
        rcases w.1 with rfl | rfl | rfl
        · refine selp (fun h => by cases h) (fun _ => selp (fun h => by cases h) (fun _ => selp (fun h => by cases h) (fun _ => selp (fun h => by cases h) (fun _ => selp (fun _ => ?_) (fun h => by cases h)))))
          have hbb := bin 2 3 ⟨#[38]⟩ rfl
          exact ⟨_, q63, _, e179 (s179 a z 2 w.2.1 hla), hbb.1, _, q64, _, e179 (s179 b z 3 w.2.2 hlb), hbb.2, rfl⟩
        · refine selp (fun h => by cases h) (fun _ => selp (fun h => by cases h) (fun _ => selp (fun h => by cases h) (fun _ => selp (fun h => by cases h) (fun _ => selp (fun h => by cases h) (fun _ => selp (fun _ => ?_) (fun h => by cases h))))))
          have hbb := bin 1 2 ⟨#[124]⟩ rfl
          exact ⟨_, q63, _, e179 (s179 a z 1 w.2.1 hla), hbb.1, _, q64, _, e179 (s179 b z 2 w.2.2 hlb), hbb.2, rfl⟩
        · refine selp (fun h => by cases h) (fun _ => selp (fun h => by cases h) (fun _ => selp (fun h => by cases h) (fun _ => selp (fun h => by cases h) (fun _ => selp (fun h => by cases h) (fun _ => selp (fun h => by cases h) (fun _ => selp (fun _ => ?_) (fun h => by cases h)))))))
          refine ⟨_, e61 s61, _, e60 (s60 (Fo.nd 4 a b).enc [(4, 0), (1, 0), (1, 0)] z false (by omega)), ?_⟩
          by_cases hT : (Fo.nd 4 a b).enc = [(4, 0), (1, 0), (1, 0)]
          · rw [decide_eq_true hT]
            obtain ⟨h1, h2⟩ := (isT 4 a b w.2.1 w.2.2).mp hT
            refine selp (fun _ => ?_) (fun h => by cases h)
            simp [Fo.lev, Fo.tx, h1, h2]
          · rw [decide_eq_false hT]
            refine selp (fun h => by cases h) (fun _ => ⟨_, q64, ?_⟩)
            have hbl : (0 : Int) ≤ 0 ∧ (0 : Int) < ((eL b.enc z).toL.length : Int) := by
              rw [toL_eL, List.length_map]; have := enc_pos b; omega
            refine ⟨hbl, ?_⟩
            rw [toL_eL, get0, fst_eN, toI_i]
            refine selp (fun h => ?_) (fun h => ?_)
            · have hb1 : b.hd.1 = 1 := by simpa using h
              have ha1 : ¬ a.hd.1 = 1 := fun h => hT ((isT 4 a b w.2.1 w.2.2).mpr ⟨h, hb1⟩)
              refine ⟨_, q63, _, e179 (s179 a z 3 w.2.1 hla), ?_, ?_⟩
              · have := hwa 3
                simp only [toS_s]
                show 1 + _ ≤ _
                omega
              · simp [Fo.lev, Fo.tx, ha1, hb1, toS_s]
            · have hb1 : ¬ b.hd.1 = 1 := by simpa using h
              have hbb := bin 1 0 ⟨#[62]⟩ rfl
              refine ⟨_, q63, _, e179 (s179 a z 1 w.2.1 hla), hbb.1, _, q64, _, e179 (s179 b z 0 w.2.2 hlb), hbb.2, ?_⟩
              simp [Fo.lev, Fo.tx, hb1, toS_s]
    · rintro s1 s5 s6 h
      simp only [List.cons.injEq, and_true] at h
      obtain ⟨rfl, rfl, rfl⟩ := h
      simp only [toI_i, toS_s]
      have hbr := br_ok (s := f.tx) (by omega)
      refine selp (fun h => ⟨hbr.1, hbr.2, ?_⟩) (fun h => ?_)
      · have h3 : f.lev < lvl := of_decide_eq_true h
        unfold wrp
        rw [if_pos h3]
        rfl
      · have h3 : ¬ f.lev < lvl := of_decide_eq_false h
        unfold wrp
        rw [if_neg h3])
termination_by f => f.enc.length
decreasing_by all_goals (simp [Fo.enc]; try omega)

theorem s185 (k : Int) (a b : Fo) (w : (Fo.nd k a b).wf) (hl : (Fo.nd k a b).enc.length ≤ 100000) (z : Bool) : Sat Try.prog S185 185 [eL (Fo.nd k a b).enc z] [.b (decide (k = 4) && decide (b.hd.1 = 1))] := v185 (by
  unfold eL
  rw [← r185]
  have hlab : (Fo.nd k a b).enc.length = a.enc.length + b.enc.length + 1 := by simp [Fo.enc]
  have hb : (0 : Int) ≤ 0 ∧ (0 : Int) < (((Fo.nd k a b).enc.map eN).length : Int) := by rw [List.length_map]; omega
  refine ⟨hb, ?_⟩
  rw [show ((0 : Int)).toNat = 0 from rfl, get0, fst_eN, toI_i]
  simp only [Fo.hd]
  refine selp (fun h => ?_) (fun h => ?_)
  · have hk : k = 4 := by simpa using h
    have q74 := s74 (Fo.nd k a b).enc z a.enc.length b.enc.length (by omega) (by omega) (pel k a b w.2.1) (per k a b w.2.2)
    rw [cutr k a b _ (by omega), enc_hd b] at q74
    refine ⟨_, e74 q74, _, e78 (s78 b.hd b.tl z), ?_⟩
    simp [hk]
    rfl
  · have hk : ¬ k = 4 := by simpa using h
    simp [hk])

theorem s184 (f : Fo) (w : f.wf) (hl : f.enc.length ≤ 100000) (z : Bool) : Sat Try.prog S184 184 [eL f.enc z] [.i f.lev] := v184 (by
  unfold eL
  rw [← r184]
  have hpos := enc_pos f
  have hb : (0 : Int) ≤ 0 ∧ (0 : Int) < ((f.enc.map eN).length : Int) := by rw [List.length_map]; omega
  refine ⟨hb, ?_⟩
  rw [show ((0 : Int)).toNat = 0 from rfl, get0, fst_eN, toI_i]
  match f, w, hl with
  | .lf n, w, hl =>
    have hn : n.1 = 0 ∨ n.1 = 1 := by
      rcases w with ⟨h, _⟩ | rfl
      · exact .inl h
      · exact .inr rfl
    simp only [Fo.hd]
    rcases hn with h | h <;> rw [h] <;> exact selp (fun h => by cases h) (fun _ => ⟨hb, selp (fun h => by cases h) (fun _ => ⟨hb, selp (fun h => by cases h) (fun _ => rfl)⟩)⟩)
  | .un k a, w, hl =>
    simp only [Fo.hd]
    rcases w.1 with rfl | rfl <;> exact selp (fun h => by cases h) (fun _ => ⟨hb, selp (fun h => by cases h) (fun _ => ⟨hb, selp (fun h => by cases h) (fun _ => rfl)⟩)⟩)
  | .nd k a b, w, hl =>
    have q := s185 k a b w hl z
    simp only [Fo.hd]
    rcases w.1 with rfl | rfl | rfl
    · exact selp (fun h => by cases h) (fun _ => ⟨hb, selp (fun h => by cases h) (fun _ => ⟨hb, selp (fun _ => rfl) (fun h => by cases h)⟩)⟩)
    · exact selp (fun h => by cases h) (fun _ => ⟨hb, selp (fun _ => rfl) (fun h => by cases h)⟩)
    · refine selp (fun _ => ⟨_, e185 q, ?_⟩) (fun h => by cases h)
      by_cases hb1 : b.hd.1 = 1
      · refine selp (fun h => ?_) (fun _ => ⟨hb, selp (fun h => by cases h) (fun _ => ⟨hb, selp (fun h => by cases h) (fun _ => ?_)⟩)⟩)
        · simp [toB_b, hb1] at h
        · simp [Fo.lev, hb1]
      · refine selp (fun _ => ?_) (fun h => ?_)
        · simp [Fo.lev, hb1]
        · simp [toB_b, hb1] at h)

theorem s180 : ∀ (f : Fo) (z : Bool) (lvl : Int), f.wf → f.enc.length ≤ 100000 → Sat Try.prog S180 180 [eL f.enc z, .i lvl] [.s (wrp f.lev lvl f.tx)]
  | f, z, lvl, w, hl => by
    have hsz := tx_size f
    have hpos := enc_pos f
    have hb : (0 : Int) ≤ 0 ∧ (0 : Int) < ((f.enc.map eN).length : Int) := by rw [List.length_map]; omega
    have q184 := e184 (s184 f w hl z)
    have core : ∀ lvl : Int, ¬ f.lev < lvl → Sat Try.prog S180 180 [eL f.enc z, .i lvl] [.s f.tx] := fun lvl hlv => v180 (by
      unfold eL
      rw [← r180]
      refine ⟨_, q184, selp (fun h => absurd (of_decide_eq_true h) hlv) (fun _ => ⟨hb, ?_⟩)⟩
      rw [show ((0 : Int)).toNat = 0 from rfl, get0, fst_eN, toI_i]
      match f, w, hl, hb with
      | .lf n, w, hl, hb =>
        refine selp (fun h => ?_) (fun h => ?_)
        · have h0 : n.1 = 0 := by simpa [Fo.hd] using h
          have hr : 0 ≤ n.2 ∧ n.2 ≤ 5 := by
            rcases w with ⟨_, h1, h2⟩ | rfl
            · exact ⟨h1, h2⟩
            · cases h0
          have w1 : IntKind.i64.wrap (n.2 + 1) = n.2 + 1 := wrap_id (by omega) (by omega)
          simp only [snd_eN, toI_i, Fo.hd, w1, and_self]
          refine ⟨hb, hb, trivial, ⟨by omega, by omega, ?_⟩, ?_⟩
          · show n.2 + 1 ≤ 6; omega
          · simp only [Fo.tx, h0, if_true]; rfl
        · have h0 : ¬ n.1 = 0 := by simpa [Fo.hd] using h
          have h1 : n = (1, 0) := by
            rcases w with ⟨h1, _⟩ | h1
            · exact absurd h1 h0
            · exact h1
          subst h1
          exact selp (fun _ => rfl) (fun h => by cases h)
      | .un k a, w, hl, hb =>
        have hla : a.enc.length ≤ 100000 := by simp [Fo.enc] at hl; omega
        have hta := tx_size a
        have hwa := wrp_size a.lev 3 a.tx
        have q73 : E.sat 73 [] [eL (Fo.un k a).enc z] [eL a.enc z] := by
          have := s73 (Fo.un k a).enc z a.enc.length (by omega) (by simp [Fo.enc]) (peu k a w.2)
          rw [cutu] at this
          exact e73 this
        simp only [Fo.hd]
        rcases w.1 with rfl | rfl
        · refine selp (fun h => by cases h) (fun _ => selp (fun h => by cases h) (fun _ => selp (fun h => by cases h) (fun _ => selp (fun h => by cases h) (fun _ => selp (fun _ => ?_) (fun h => by cases h)))))
          refine ⟨_, q73, _, e180 (s180 a z 3 w.2 hla), ?_, rfl⟩
          simp only [toS_s]
          show 2 + _ ≤ _
          omega
        · refine selp (fun h => by cases h) (fun _ => selp (fun h => by cases h) (fun _ => selp (fun h => by cases h) (fun _ => selp (fun h => by cases h) (fun _ => selp (fun h => by cases h) (fun _ => selp (fun _ => ?_) (fun h => by cases h))))))
          refine ⟨_, q73, _, e180 (s180 a z 3 w.2 hla), ?_, rfl⟩
          simp only [toS_s]
          show 2 + _ ≤ _
          omega
      | .nd k a b, w, hl, hb =>
        have hlab : (Fo.nd k a b).enc.length = a.enc.length + b.enc.length + 1 := by simp [Fo.enc]
        have hla : a.enc.length ≤ 100000 := by omega
        have hlb : b.enc.length ≤ 100000 := by omega
        have hta := tx_size a
        have htb := tx_size b
        have hwa := fun l => wrp_size a.lev l a.tx
        have hwb := fun l => wrp_size b.lev l b.tx
        have q73 : E.sat 73 [] [eL (Fo.nd k a b).enc z] [eL a.enc z] := by
          have := s73 (Fo.nd k a b).enc z a.enc.length (by omega) (by omega) (pel k a b w.2.1)
          rw [cutl] at this
          exact e73 this
        have q74 : E.sat 74 [] [eL (Fo.nd k a b).enc z] [eL b.enc z] := by
          have := s74 (Fo.nd k a b).enc z a.enc.length b.enc.length (by omega) (by omega) (pel k a b w.2.1) (per k a b w.2.2)
          rw [cutr k a b _ (by omega)] at this
          exact e74 this
        have bin : ∀ (la lb : Int) (c : ByteArray), c.size = 1 → (wrp a.lev la a.tx).size + c.size ≤ 9223372036854775807 ∧ (wrp a.lev la a.tx ++ c).size + (wrp b.lev lb b.tx).size ≤ 9223372036854775807 := by
          intro la lb c hc
          have := hwa la
          have := hwb lb
          simp only [ByteArray.size_append, hc]
          omega
        simp only [Fo.hd]
        rcases w.1 with rfl | rfl | rfl
        · refine selp (fun h => by cases h) (fun _ => selp (fun h => by cases h) (fun _ => selp (fun _ => ?_) (fun h => by cases h)))
          have hbb := bin 2 3 ⟨#[38]⟩ rfl
          exact ⟨_, q73, _, e180 (s180 a z 2 w.2.1 hla), hbb.1, _, q74, _, e180 (s180 b z 3 w.2.2 hlb), hbb.2, rfl⟩
        · refine selp (fun h => by cases h) (fun _ => selp (fun h => by cases h) (fun _ => selp (fun h => by cases h) (fun _ => selp (fun _ => ?_) (fun h => by cases h))))
          have hbb := bin 1 2 ⟨#[124]⟩ rfl
          exact ⟨_, q73, _, e180 (s180 a z 1 w.2.1 hla), hbb.1, _, q74, _, e180 (s180 b z 2 w.2.2 hlb), hbb.2, rfl⟩
        · refine selp (fun h => by cases h) (fun _ => selp (fun h => by cases h) (fun _ => selp (fun h => by cases h) (fun _ => selp (fun h => by cases h) (fun _ => selp (fun h => by cases h) (fun _ => selp (fun h => by cases h) (fun _ => ?_))))))
          refine ⟨_, e185 (s185 4 a b w hl z), ?_⟩
          by_cases hb1 : b.hd.1 = 1
          · refine selp (fun h => ?_) (fun _ => ⟨_, q73, ?_⟩)
            · simp [toB_b, hb1] at h
            · have q78 := s78 a.hd a.tl z
              rw [← enc_hd] at q78
              refine ⟨_, e78 q78, selp (fun h => ?_) (fun h => ⟨_, q73, _, e180 (s180 a z 3 w.2.1 hla), ?_, ?_⟩)⟩
              · have ha1 : a.hd.1 = 1 := by simpa [toB_b] using h
                simp [Fo.tx, hb1, ha1]
              · have := hwa 3
                simp only [toS_s]
                show 1 + _ ≤ _
                omega
              · have ha1 : ¬ a.hd.1 = 1 := by simpa [toB_b] using h
                simp [Fo.tx, hb1, ha1, toS_s]
          · refine selp (fun _ => ?_) (fun h => ?_)
            · have hbb := bin 1 0 ⟨#[62]⟩ rfl
              refine ⟨_, q73, _, e180 (s180 a z 1 w.2.1 hla), hbb.1, _, q74, _, e180 (s180 b z 0 w.2.2 hlb), hbb.2, ?_⟩
              simp [Fo.tx, hb1, toS_s]
            · simp [toB_b, hb1] at h)
    by_cases hlv : f.lev < lvl
    · have hlev0 : ¬ f.lev < 0 := by
        unfold Fo.lev
        repeat' split
        all_goals omega
      refine v180 ?_
      unfold eL
      rw [← r180]
      have hbr := br_ok (s := f.tx) (by omega)
      refine ⟨_, q184, selp (fun _ => ⟨_, e180 (core 0 hlev0), hbr.1, hbr.2, ?_⟩) (fun h => absurd hlv (of_decide_eq_false h))⟩
      unfold wrp
      rw [if_pos hlv]
      rfl
    · have := core lvl hlv
      unfold wrp
      rw [if_neg hlv]
      exact this
termination_by f => f.enc.length
decreasing_by all_goals (simp_all [Fo.enc]; try omega)
end Go.Pi.CommonVc
