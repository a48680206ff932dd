/- From a run of the abstract machine to a row: 'for every input true; the input reads as it did'. Own work. -/
import Derived.Test.YtghkgkjbdfnimaaAmInt
import Derived.WalkKit
import Derived.ProofKit
import Derived.OpenShut
import Derived.Below
import Derived.Carry
import Derived.SizedLaws
namespace Go.AM
open Go Go.RowKit Go.ChangeShapes Go.WideShapes Go.ChangeAt
set_option linter.unusedVariables false
set_option linter.unusedSimpArgs false

theorem trodAll_below {H : Type} {enc : TypeId × Value → H} {P : Program} (hl : laidOutB P = true) {W W' : World} (bel : Below W.heap.size W W') :
    ∀ {ts : List TypeId} {vs : List Value} {ds : List (DataW H)} {ps : List MemPlace}, (ts.all fun t => P.readableRec t && decide (t < P.types.size)) = true →
      DataW.TrodAll enc P W 0 (fun _ => true) true ts vs ds ps → DataW.TrodAll enc P W' 0 (fun b => decide (b < W.heap.size)) true ts vs ds ps
  | [], vs, ds, ps, _, h => by
    obtain ⟨rfl, rfl, rfl⟩ := trodAll_nil h
    exact trodAll_mk0
  | t :: ts, vs, ds, ps, hr, h => by
    obtain ⟨v, vs1, d, ds1, a, b, rfl, rfl, rfl, h1, h2⟩ := trodAll_cons h
    simp only [List.all_cons, Bool.and_eq_true, decide_eq_true_eq] at hr
    refine trodAll_cons_mk ?_ (trodAll_below hl bel hr.2 h2)
    refine Below.trod hl hr.1.1 hr.1.2 h1 bel ?_
    obtain ⟨m, hm⟩ := h1
    exact DataW.trod_lt m _ _ _ hm

/-- What a row of these asks, out of 'true' and 'nothing below has turned'. -/
theorem post_true {H : Type} {enc : TypeId × Value → H} {P : Program} {f : Func} {s : ChangeSpec} {apart fresh handsOn : Bool} {W W' : World} {args : Array Value} {ds gs : List (DataW H)} {before : List MemPlace} {rt : TypeId}
    (hl : laidOutB P = true) (hr : (f.params.toList.all fun t => P.readableRec t && decide (t < P.types.size)) = true)
    (hv : s.vars = []) (hrt : f.resultTypes = #[rt]) (hrb : P.underlying rt = some .bool)
    (hW : DataW.Whole enc P f.params.toList s.vars apart W args.toList ds gs before)
    (hfn : s.fn H ds = { results := [.lit (.bool true)], args := ds, vars := [] })
    (bel : Below W.heap.size W W') : s.post enc P f apart fresh handsOn false W args (.bool true) W' := by
  have hW0 := hW
  obtain ⟨p, q, hA, hV, rfl, hfz, hnd⟩ := hW
  rw [hv] at hV
  obtain ⟨rfl, rfl⟩ := trodVars_none hV
  refine ⟨ds, [], _, [], p, [], hW0, ?_, ?_, ?_, bel.frame _, fun h => by cases h⟩
  · rw [List.append_nil, hfn, hrt]
    exact trodAll_mk1 (shut_bool hrb true)
  · rw [List.append_nil, hfn]
    exact trodAll_below hl bel hr hA
  · rw [List.append_nil, hfn, hv]
    exact (rfl : ([] : List MemPlace) = [])

/-- The world as a row's function finds it. -/
def Img.all (W : World) : Img := ⟨fun _ => none, fzAll W, (· < W.heap.size), fun _ => False⟩

/-- The run of a row's function, out of the abstract machine's. -/
theorem calls_true {P : Program} {F : Nat → Option FI} {I : Nat → Option (List AV → AH → Rs)} {T : TT} (hT : TAgree P T) (hmix : P.follows .mixedOrders = true) (hF : FAgree P F) (hI : IAgree P I)
    {n f : Nat} (hfY : Nat.beq f YLD = false) {as : List AV} {h' : AH} (hc : call F I T n f as ⟨0, .leaf⟩ = some (.bool true, h')) {W : World} (htb : ∀ k arr, tablesOf P k = some arr → fzAll W k = some arr) {args : Array Value} (ha : VRL (Img.all W) as args.toList) :
    Calls P f args W fun e W' => e = .returned (.bool true) ∧ Below W.heap.size W W' := by
  have := ((call_sim hT hmix hF hI ⟨(· < W.heap.size)⟩ n) f as _ _ h' hc).1 hfY |>.2 _ W args.toList ha (HR.values (P := P) W (fzAll W) (fun _ _ h => fzAll_some h) htb)
  refine (show Calls P f args W _ from this).mono ?_
  rintro e W' ⟨v', rfl, hg⟩
  obtain ⟨μ', _, hv, _, hb⟩ := hg
  exact ⟨by rw [VR] at hv; rw [hv], hb.below⟩

def noI : Nat → Option (List AV → AH → Rs) := fun _ => none
theorem noI_agree (P : Program) : IAgree P noI := ⟨fun f g h => by cases h⟩

def bads : Nat → List AV
  | 0 => []
  | n + 1 => .bad :: bads n
theorem VRL.bads (μ : Img) : ∀ (n : Nat) (vs : List Value), vs.length = n → VRL μ (Go.AM.bads n) vs
  | 0, [], _ => VRL.nil
  | n + 1, v :: vs, h => VRL.cons (by rw [VR]; trivial) (VRL.bads μ n vs (by simpa using h))

def isT (r : Rs) : Bool := match r with
  | some (.bool true, _) => true
  | _ => false
theorem isT_some {r : Rs} (h : isT r = true) : ∃ h', r = some (.bool true, h') := by
  unfold isT at h
  split at h
  · exact ⟨_, rfl⟩
  · cases h

/-- A run that asks nothing of the arguments. -/
theorem calls_blind {P : Program} (hmix : P.follows .mixedOrders = true) {n f k : Nat} (hfY : Nat.beq f YLD = false) (hc : isT (call (Fof P) noI (tiOf P) n f (bads k) ⟨0, .leaf⟩) = true) {W : World} (htb : ∀ k arr, tablesOf P k = some arr → fzAll W k = some arr) {args : Array Value} (ha : args.size = k) :
    Calls P f args W fun e W' => e = .returned (.bool true) ∧ Below W.heap.size W W' := by
  obtain ⟨h', hc⟩ := isT_some hc
  exact calls_true (tiOf_agree P) hmix (Fof_agree P) (noI_agree P) hfY hc htb (VRL.bads _ k _ (by simpa using ha))

/-- A run on values. -/
theorem calls_plain {P : Program} (hmix : P.follows .mixedOrders = true) {n f : Nat} {as : List AV} (hfY : Nat.beq f YLD = false) (hc : isT (call (Fof P) noI (tiOf P) n f as ⟨0, .leaf⟩) = true) {W : World} (htb : ∀ k arr, tablesOf P k = some arr → fzAll W k = some arr) {args : Array Value} (ha : VRL (Img.all W) as args.toList) :
    Calls P f args W fun e W' => e = .returned (.bool true) ∧ Below W.heap.size W W' := by
  obtain ⟨h', hc⟩ := isT_some hc
  exact calls_true (tiOf_agree P) hmix (Fof_agree P) (noI_agree P) hfY hc htb ha

end Go.AM
