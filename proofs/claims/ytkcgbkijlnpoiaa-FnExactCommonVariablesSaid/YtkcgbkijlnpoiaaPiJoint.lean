/- A statement 'for every input the law returns true; each argument reads behind the call as it read before', out of the law's contract. -/
import Derived.Test.YtkcgbkijlnpoiaaPiOpen
import Derived.JoinedOf
import Derived.JoinedAt
import Derived.RowKit2
namespace Go.Pi
open Go.ChangeShapes Go.WideShapes Go.ChangeAt Go.RowKit

def tysB (P : Program) (ts : List Nat) : Bool := ts.all fun t => P.readableRec t && decide (t < P.types.size)

theorem trodAll_below {H : Type} {enc : TypeId × Value → H} {P : Program} {W W' : World} {sp : Nat → Bool} (hl : laidOutB P = true) (hb : Below W.heap.size W W') :
    ∀ {ts : List TypeId} {vs : List Value} {ds : List (DataW H)} {ps : List MemPlace}, tysB P ts = true → DataW.TrodAll enc P W 0 (fun _ => true) true ts vs ds ps → (∀ x ∈ ps, x.block < W.heap.size) → (∀ x ∈ ps, sp x.block = true) →
      DataW.TrodAll enc P W' 0 sp true ts vs ds ps
  | [], _, _, _, _, h, _, _ => by
    obtain ⟨rfl, rfl, rfl⟩ := trodAll_nil h
    exact rfl
  | _ :: _, _, _, _, ht, h, hlt, hs => by
    obtain ⟨v, vs1, d, ds1, a, b, rfl, rfl, rfl, h1, h2⟩ := trodAll_cons h
    simp only [tysB, List.all_cons, Bool.and_eq_true, decide_eq_true_eq] at ht
    refine ⟨a, b, WideElems.Trod_stays hl ht.1.1 ht.1.2 h1 (fun x hx => hb.same (hlt x (by simp [hx]))) (fun x hx => hs x (by simp [hx])), trodAll_below hl hb ht.2 h2 (fun x hx => hlt x (by simp [hx])) (fun x hx => hs x (by simp [hx])), rfl⟩

/-- A law's specification: true; the arguments read as they did. -/
def IsLaw (s : ChangeSpec) (n : Nat) : Prop := s.vars = [] ∧ ∀ (H : Type) (ds : List (DataW H)), ds.length = n → s.fn H ds = { results := [.lit (.bool true)], args := ds }

theorem trodAll_len {H : Type} {enc : TypeId × Value → H} {P : Program} {w : World} {base : Nat} {spare : Nat → Bool} {held : Bool} : ∀ {ts : List TypeId} {vs : List Value} {ds : List (DataW H)} {ps : List MemPlace}, DataW.TrodAll enc P w base spare held ts vs ds ps → ds.length = ts.length
  | [], _, _, _, h => by
    obtain ⟨rfl, rfl, rfl⟩ := trodAll_nil h
    rfl
  | _ :: _, _, _, _, h => by
    obtain ⟨v, vs1, d, ds1, a, b, rfl, rfl, rfl, h1, h2⟩ := trodAll_cons h
    simp [trodAll_len h2]

theorem law_lifted {H : Type} {enc : TypeId × Value → H} {a : Assume} {C : Checked} {os : Os} {f : FuncId} {fn : Func} {s : ChangeSpec} {conds : List PathCond} {apart fresh handsOn again : Bool} {n tb : Nat} {S : Sg}
    (own : ownKnob C.prog.godebug = none) (started : os.Started) (noInit : C.prog.inits.idxOf? f = none) (hfn : C.prog.funcs[f]? = some fn)
    (witness : ∃ (w : World) (tape : Tape) (i : Input), w.os = os ∧ (w.forCall tape i).Shaped C.prog ∧ i.vars = [] ∧ Input.okWide C.prog (w.forCall tape i) .any w.heap.size f i ∧
      s.pre6 enc C.prog fn conds apart (w.forCall tape i).memory i.args ∧ a.holds C.prog (lone (Frame.enter C.prog f i.args .normal) [] (w.forCall tape i)))
    (hs : IsLaw s fn.params.size) (hl : laidOutB C.prog = true) (ht : tysB C.prog fn.params.toList = true) (hm : mAll C.prog n fn.params.toList S.ps = true) (hr : S.rs = [.bool]) (hres : fn.resultTypes = #[tb]) (hb : C.prog.underlying tb = some .bool)
    (hS : ∀ xs, wfAll S.ps xs → Sat C.prog S f xs [.b true]) :
    ReturnsInHanded a C os f .any (s.pre6 enc C.prog fn conds apart) (s.post enc C.prog fn apart fresh handsOn again) := by
  refine returnsInHanded_of_change own started noInit hfn witness ?_
  intro W base args ds gs before hval hW _ _
  have hW' := hW
  obtain ⟨p, q, hA, hV, hpq, _, _⟩ := hW
  rw [hs.1] at hV
  obtain ⟨rfl, rfl⟩ := trodVars_none hV
  simp only [List.append_nil] at hpq
  subst hpq
  have hlen : (ds ++ []).length = fn.params.size := by
    rw [List.append_nil, trodAll_len hA, Array.length_toList]
  have hsp := hs.2 H (ds ++ []) hlen
  have hc := call_true (g := f) (vs := args.toList) (w := W) hS hr hm (fun j t v hj hv => hval j t v (by simpa using hj) (by simpa using hv)) hA
  rw [Array.toArray_toList] at hc
  refine hc.mono fun e W' ⟨he, hbel, hfz⟩ => ?_
  subst he
  refine ⟨_, rfl, post_of_same (pa := before) (pv := []) hW' (fun _ _ _ => ?_) (fun sp hsp2 => ?_) (fun sp _ => ?_) (by simp) (hbel.frame _) hfz (ok_one hres rfl (okWide_bool_mk hb true))⟩
  · rw [hsp, hres]
    exact ⟨[], [], shut_bool hb true, rfl, rfl⟩
  · rw [hsp]
    simp only [List.append_nil]
    exact trodAll_below hl hbel ht hA (fun x hx => hW'.lt x hx) hsp2
  · rw [hsp, hs.1]
    exact rfl
end Go.Pi
