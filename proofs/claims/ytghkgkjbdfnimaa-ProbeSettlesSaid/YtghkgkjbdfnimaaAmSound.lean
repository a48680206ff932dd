/- What the abstract machine comes to, the machine comes to. Own work. -/
import Derived.Test.YtghkgkjbdfnimaaAmOps6
import Derived.OrdersIn
namespace Go.AM
open Go Go.RowKit
set_option linter.unusedVariables false
set_option linter.unusedSimpArgs false
set_option linter.unusedSectionVars false

/-- A frame's marks. -/
def DefR (μ : Img) (ms : List Nat) (ds : List Deferred) : Prop :=
  ∃ cbs : List Nat, ds = cbs.map (fun c => { target := .collected c, args := #[] }) ∧ cbs.length = ms.length ∧ ∀ (i m : Nat), ms[i]? = some m → ∃ c δ N, cbs[i]? = some c ∧ μ m = some (c, δ, N)
def DefM (rf : Bool) (N : Nat) (μ : Img) (e : Env) (ds : List Deferred) : Prop := match rf with
  | false => ds = []
  | true => N ≤ HID ∧ DefR μ (marks (e HID)) ds
theorem DefR.mono {μ μ' : Img} (hm : μ.le μ') {ms : List Nat} {ds : List Deferred} (h : DefR μ ms ds) : DefR μ' ms ds := by
  obtain ⟨cbs, h1, h2, h3⟩ := h
  exact ⟨cbs, h1, h2, fun i m hi => let ⟨c, δ, N, g1, g2⟩ := h3 i m hi; ⟨c, δ, N, g1, hm.m _ _ g2⟩⟩
theorem DefM.mono {rf : Bool} {N : Nat} {μ μ' : Img} (hm : μ.le μ') {e : Env} {ds : List Deferred} (h : DefM rf N μ e ds) : DefM rf N μ' e ds := by
  cases rf with
  | false => exact h
  | true => exact ⟨h.1, h.2.mono hm⟩
theorem DefM.put {rf : Bool} {N : Nat} {μ : Img} {e : Env} {ds : List Deferred} (h : DefM rf N μ e ds) {dst : Option Nat} {v : AV} (hd : ∀ d, dst = some d → d < N) : DefM rf N μ (e.put dst v) ds := by
  cases rf with
  | false => exact h
  | true =>
    refine ⟨h.1, ?_⟩
    have : (e.put dst v) HID = e HID := by
      cases dst with
      | none => rfl
      | some d =>
        have h1 := hd d rfl
        have h2 := h.1
        simp only [Env.put, Env.set]
        cases hb : Nat.beq HID d with
        | true => have := Nat.eq_of_beq_eq_true hb; omega
        | false => rfl
    rw [this]; exact h.2

/-- A state of the abstract machine, and one of the machine. -/
def St {P : Program} (B : BS P) (N : Nat) (rf : Bool) (μ0 : Img) (w0 : World) (e : Env) (h : AH) (a : Act) (w : World) : Prop :=
  ∃ μ, μ0.le μ ∧ ER μ e a ∧ HR B μ h w.heap ∧ a.tmps.size = N ∧ DefM rf N μ e a.defers ∧ BelowS B w0 w

theorem ER.mono {μ μ' : Img} (hm : μ.le μ') {e : Env} {a : Act} (he : ER μ e a) : ER μ' e a := fun t => (he t).mono hm

theorem ER.put {μ : Img} {e : Env} {a : Act} (he : ER μ e a) {dst : Option Nat} {v : AV} {v' : Value} (hv : VR μ v v') (hd : ∀ d, dst = some d → d < a.tmps.size) :
    ER μ (e.put dst v) (a.put dst v') := by
  cases dst with
  | none => exact he
  | some d =>
    intro t
    have hlt := hd d rfl
    simp only [Env.put, Env.set, Act.put]
    cases hb : Nat.beq t d with
    | true =>
      have := Nat.eq_of_beq_eq_true hb
      subst this
      have : (a.tmps.setIfInBounds t v').getD t undef = v' := by simp [Array.getD, hlt]
      rw [this]; exact hv
    | false =>
      have hne := Nat.ne_of_beq_eq_false hb
      have : (a.tmps.setIfInBounds d v').getD t undef = a.tmps.getD t undef := by
        simp only [Array.getD_eq_getD_getElem?]
        rw [Array.getElem?_setIfInBounds_ne (fun e => hne e.symm)]
      rw [this]; exact he t

theorem put_size (a : Act) (dst : Option Tmp) (v : Value) : (a.put dst v).tmps.size = a.tmps.size := by cases dst <;> simp [Act.put]
theorem put_defers (a : Act) (dst : Option Tmp) (v : Value) : (a.put dst v).defers = a.defers := by cases dst <;> rfl

/-- What a guard says. -/
theorem guard_bool {μ : Img} {e : Env} {a : Act} (he : ER μ e a) {d : Nat} {b : Bool} (h : e d = .bool b) : a.tmps[d]? = some (.bool b) := by
  have := he d
  rw [h] at this
  have hb := this.bool_inv
  rw [Array.getD_eq_getD_getElem?] at hb
  cases hd : a.tmps[d]? with
  | none => rw [hd] at hb; simp [undef] at hb
  | some v => rw [hd] at hb; simp at hb; rw [hb]

section
variable {P : Program} {T : TT} (hT : TAgree P T) {B : BS P} {C : Cf} (hC : CallOK P B C) {N : Nat} {rf : Bool} {μ0 : Img} {w0 : World} (ro : Option Nat)
include hT hC

/-- One operation, guarded or not. -/
theorem step_sim {all : Array Oper} {e : Env} {h : AH} {a : Act} {w : World} (hst : St B N rf μ0 w0 e h a w) {o : Oper} {r : AV × AH} {K : AV → AH → Rs}
    (hrun : (outOf C T o e h).run (guardOf all o e) h K = some r) (hd : ∀ d, o.dst = some d → d < N) (Q : Exit → Act → World → Prop) (next : Act → World → Prop)
    (hnext : ∀ v h' a' w', K v h' = some r → St B N rf μ0 w0 (e.put o.dst v) h' a' w' → next a' w') :
    (if Region.wanted o (yielded all a.tmps) then o.wpIn (WF ro) 0 P a w next Q else (∀ f, o.about P w a.eval = some f → (WF ro).fn f) ∧ next (a.put o.dst undef) w) := by
  obtain ⟨μ, h0, he, hr, hN, hdf, hB⟩ := hst
  have go : ∀ v h', (outOf C T o e h).val h = some (v, h') → K v h' = some r → o.wpIn (WF ro) 0 P a w next Q := by
    intro v h' hv hK
    refine Oper.wpIn_mono ?_ (op_sim hT hC he hr hv ro Q)
    rintro a' w' ⟨v', rfl, μ', h1, h2, h3, h4⟩
    exact hnext v h' _ _ hK ⟨μ', h0.trans h1, (he.mono h1).put h2 (fun d hd' => by rw [hN]; exact hd d hd'), h3, by rw [put_size, hN], by rw [put_defers]; exact (hdf.mono h1).put hd, hB.trans h4⟩
  have skip : K (.tup []) h = some r → next (a.put o.dst undef) w := fun hK =>
    hnext (.tup []) h _ _ hK ⟨μ, h0, he.put (by rw [VR]; exact ⟨#[], rfl, VRL.nil⟩) (fun d hd' => by rw [hN]; exact hd d hd'), hr, by rw [put_size, hN], by rw [put_defers]; exact hdf.put hd, hB⟩
  have goRun : (outOf C T o e h).run0 h K = some r → o.wpIn (WF ro) 0 P a w next Q := by
    intro hrun
    unfold Out.run0 at hrun
    cases ho : outOf C T o e h with
    | v x =>
      rw [ho] at hrun
      obtain ⟨v, hv, hK⟩ := Option.bind_eq_some_iff.1 hrun
      exact go v h (by rw [ho]; simp [Out.val, hv]) hK
    | h x =>
      rw [ho] at hrun
      obtain ⟨h', hv, hK⟩ := Option.bind_eq_some_iff.1 hrun
      exact go .bad h' (by rw [ho]; simp [Out.val, hv]) hK
    | r x =>
      rw [ho] at hrun
      obtain ⟨p, hv, hK⟩ := Option.bind_eq_some_iff.1 hrun
      exact go p.1 p.2 (by rw [ho]; simp [Out.val, hv]) hK
  cases hg : o.guard with
  | none =>
    have hw : Region.wanted o (yielded all a.tmps) = true := by simp [Region.wanted, hg]
    rw [if_pos hw]
    simp only [guardOf, hg, Out.run] at hrun
    exact goRun hrun
  | some jw =>
    obtain ⟨j, want⟩ := jw
    simp only [guardOf, hg] at hrun
    cases hdj : (all[j]?).bind (·.dst) with
    | none => simp [hdj, Out.run, wants] at hrun
    | some d =>
      simp only [hdj, Out.run] at hrun
      cases hed : e d with
      | bool b =>
        have hy : yielded all a.tmps j = some b := by
          simp only [yielded, hdj, Option.bind_some]
          rw [guard_bool he hed]
        have hw : Region.wanted o (yielded all a.tmps) = (b == want) := by simp [Region.wanted, hg, hy]
        rw [hw]
        rw [hed] at hrun
        have hwb : wants (.bool b) want = some (b == want) := by cases b <;> cases want <;> rfl
        rw [hwb] at hrun
        cases hbw : (b == want) with
        | true => rw [hbw] at hrun; rw [if_pos rfl]; exact goRun hrun
        | false => rw [hbw] at hrun; simp only [Bool.false_eq_true, if_false]; exact ⟨fun _ _ => WF_fn _ _, skip hrun⟩
      | tup vs =>
        have hy : yielded all a.tmps j = none := by
          simp only [yielded, hdj, Option.bind_some]
          split
          · rename_i b hb
            have := he d
            rw [hed] at this
            have h2 : a.tmps.getD d undef = .bool b := by rw [Array.getD_eq_getD_getElem?, hb]; rfl
            rw [h2, VR] at this
            obtain ⟨us, hu, _⟩ := this
            cases hu
          · rfl
        have hw : Region.wanted o (yielded all a.tmps) = false := by simp [Region.wanted, hg, hy]
        rw [hw]
        rw [hed] at hrun
        simp only [wants] at hrun
        simp only [Bool.false_eq_true, if_false]
        exact ⟨fun _ _ => WF_fn _ _, skip hrun⟩
      | _ => rw [hed] at hrun; simp [wants] at hrun

/-- A region in the order of the text. -/
theorem ops_sim {all : Array Oper} (hd : ∀ (i : Nat) (o : Oper) (d : Nat), all[i]? = some o → o.dst = some d → d < N) {r : AV × AH} {K : Env → AH → Rs} {Q : Exit → Act → World → Prop}
    (hQ : ∀ e h a w, K e h = some r → St B N rf μ0 w0 e h a w → Q .normal a w) :
    ∀ (k i : Nat) (e : Env) (h : AH) (a : Act) (w : World), i + k = all.size → St B N rf μ0 w0 e h a w → ops C T all (all.toList.drop i) e h K = some r →
      wpOpsIn (WF ro) 0 P all Q (List.range' i k) a w := by
  intro k
  induction k with
  | zero =>
    intro i e h a w hi hst hrun
    have : all.toList.drop i = [] := by rw [List.drop_eq_nil_iff]; simp; omega
    rw [this] at hrun
    exact hQ e h a w hrun hst
  | succ k ih =>
    intro i e h a w hi hst hrun
    have hlt : i < all.size := by omega
    have hdrop : all.toList.drop i = all[i] :: all.toList.drop (i + 1) := by
      rw [List.drop_eq_getElem_cons (by simpa using hlt)]; simp
    rw [hdrop] at hrun
    simp only [ops] at hrun
    rw [List.range'_succ]
    simp only [wpOpsIn]
    have hg : all[i]? = some all[i] := by simp [hlt]
    rw [hg]
    simp only
    exact step_sim hT hC ro hst hrun (fun d hd' => hd i _ d hg hd') Q _ (fun v h' a' w' hK hst' => ih (i + 1) _ h' a' w' (by omega) hst' hK)

end
end Go.AM
