/- Code and calls: what the abstract machine comes to, the machine comes to. Own work. -/
import Derived.Test.YtekoffjfbjonmaaAmDraw3
namespace Go.AM
open Go Go.RowKit
set_option linter.unusedVariables false
set_option linter.unusedSimpArgs false
set_option linter.unusedSectionVars false

def exR : Ex → Exit → Prop
  | .normal, .normal => True
  | .exit i, .exit j => i = j
  | .ret, .ret => True
  | _, _ => False

theorem St.drew {base N : Nat} {μ0 : Img} {w0 : World} {e : Env} {h : AH} {a : Act} {w : World} (hs : St base N μ0 w0 e h a w) : St base N μ0 w0 e h a { w with drawn := w.drawn + 1 } := by
  obtain ⟨μ, h0, he, hr, hN, hd, hB⟩ := hs
  exact ⟨μ, h0, he, hr, hN, hd, ⟨hB.os, hB.tape, hB.output, hB.size, hB.block⟩⟩

theorem dstOk_mono {N M : Nat} (h : N ≤ M) : ∀ c : Code, dstOk N c = true → dstOk M c = true
  | .region _ all _, hc => by
    simp only [dstOk, List.all_eq_true] at hc ⊢
    intro o ho
    have := hc o ho
    cases hd : o.dst with
    | none => rfl
    | some d => rw [hd] at this; simp only at this ⊢; rw [Nat.blt_eq] at this ⊢; omega
  | .seq a b, hc => by
    simp only [dstOk, Bool.and_eq_true] at hc ⊢
    exact ⟨dstOk_mono h a hc.1, dstOk_mono h b hc.2⟩
  | .cond _ a b, hc => by
    simp only [dstOk, Bool.and_eq_true] at hc ⊢
    exact ⟨dstOk_mono h a hc.1, dstOk_mono h b hc.2⟩
  | .block _ c, hc => dstOk_mono h c hc
  | .loop c, hc => dstOk_mono h c hc
  | .skip, _ => rfl
  | .rangeFunc .., _ => rfl
  | .exit _, _ => rfl
  | .scope _, _ => rfl
  | .label _, _ => rfl
  | .goto _, _ => rfl
  | .ret, _ => rfl
  | .refuse _, _ => rfl

section
variable {P : Program} {T : TT} (hT : TAgree P T) (hmix : P.follows .mixedOrders = true) {base : Nat} {C : Cf} (hC : CallOK P base C) {N : Nat} {μ0 : Img} {w0 : World}
include hT hmix hC

def CPost (base N : Nat) (μ0 : Img) (w0 : World) (r : AV × AH) (K : Kt) (ex : Exit) (a : Act) (w : World) : Prop :=
  ∃ ex' e h, exR ex' ex ∧ K ex' e h = some r ∧ St base N μ0 w0 e h a w

theorem region_sim {id : Nat} {all : Array Oper} {draw : Bool} (hd : dstOk N (.region id all draw) = true) {e : Env} {h : AH} {K : Kt} {r : AV × AH} {a : Act} {w : World}
    (hst : St base N μ0 w0 e h a w) (hok : draw = true → drawOk T all = true)
    (hrun : (draw = false ∨ softs T all = []) ∧ ops C T all all.toList e h (K .normal) = some r ∨
      draw = true ∧ ∃ (es : Nat → Env) (hs : Nat → AH), es 0 = e ∧ hs 0 = h ∧ Tr C T all es hs ∧ K .normal (es all.size) (hs all.size) = some r) :
    (Code.region id all draw).wp P (CPost base N μ0 w0 r K) a w := by
  have hdd : ∀ (i : Nat) (o : Oper) (d : Nat), all[i]? = some o → o.dst = some d → d < N := by
    intro i o d hi ho
    simp only [dstOk, List.all_eq_true] at hd
    have := hd o (by have := Array.mem_of_getElem? hi; simpa using this)
    rw [ho] at this
    simp only at this
    rw [Nat.blt_eq] at this
    exact this
  cases draw with
  | false =>
    replace hrun : ops C T all all.toList e h (K .normal) = some r := by
      rcases hrun with hrun | hrun
      · exact hrun.2
      · cases hrun.1
    refine wp_region ?_
    rw [List.range_eq_range']
    exact ops_sim hT hC hdd (K := K .normal) (r := r) (fun e h a w hK hs => ⟨.normal, e, h, trivial, hK, hs⟩) all.size 0 e h a w (by omega) hst (by simpa using hrun)
  | true =>
    refine wp_region_any hmix ?_
    obtain ⟨es, hs, e1, e2, tr, e4⟩ : ∃ (es : Nat → Env) (hs : Nat → AH), es 0 = e ∧ hs 0 = h ∧ Tr C T all es hs ∧ K .normal (es all.size) (hs all.size) = some r := by
      rcases hrun with ⟨hsf, hrun⟩ | hrun
      · obtain ⟨es, hs, e1, e2, e3, e4⟩ := tr_exists (C := C) (T := T) (all := all) all.size 0 e h (by omega) (by simpa using hrun)
        have hnil : softs T all = [] := by
          rcases hsf with h | h
          · cases h
          · exact h
        exact ⟨es, hs, e1, e2, ⟨fun i o ho => e3 i o (Nat.zero_le _) ho, fun i lo hi o hm => by rw [hnil] at hm; cases hm⟩, e4⟩
      · exact hrun.2
    have hempty : ∀ n, (∀ t, valR all es (setOf (Array.replicate all.size false)) n t = es 0 t ∨ all.size < n) := by
      intro n t
      induction n with
      | zero => exact .inl rfl
      | succ n ih =>
        rcases ih with ih | ih
        · by_cases hn : n < all.size
          · left
            simp only [valR]
            rw [if_neg, ih]
            rintro ⟨h1, _⟩
            simp [setOf, Array.getD, hn] at h1
          · right; omega
        · right; omega
    have hempty2 : ∀ n, hxR T all (setOf (Array.replicate all.size false)) n = 0 ∨ all.size < n := by
      intro n
      induction n with
      | zero => exact .inl rfl
      | succ n ih =>
        rcases ih with ih | ih
        · by_cases hn : n < all.size
          · left
            simp only [hxR]
            rw [if_neg, ih]
            rintro ⟨h1, _⟩
            simp [setOf, Array.getD, hn] at h1
          · right; omega
        · right; omega
    have hv0 : valR all es (setOf (Array.replicate all.size false)) all.size = e := funext fun t => by
      rcases hempty all.size t with h | h
      · rw [h, e1]
      · omega
    have hx0 : hxR T all (setOf (Array.replicate all.size false)) all.size = 0 := by
      rcases hempty2 all.size with h | h
      · exact h
      · omega
    refine draw_any hT hC tr (hok rfl) hdd (N := N) (fun a w hs' => ⟨.normal, _, _, trivial, e4, hs'⟩) all.size (Array.replicate all.size false) a _ (by simp) ?_ ?_
    · exact Nat.le_trans (List.count_le_length (a := false) (l := (Array.replicate all.size false).toList)) (by simp)
    · refine ⟨by rw [hv0, hx0, e2]; exact hst.drew, ?_, ?_⟩
      · intro j hj hS
        simp [setOf, Array.getD, hj] at hS
      · intro m hm b x hb
        rw [hx0] at hm
        have : m = 0 := by omega
        subst this
        rw [e2] at hb ⊢
        obtain ⟨μ, _, _, hr, _⟩ := hst
        exact (hr.blk b x hb).1

theorem code_sim (n : Nat) {r : AV × AH} : ∀ (c : Code) (e : Env) (h : AH) (K : Kt) (a : Act) (w : World), code C T n c e h K = some r → dstOk N c = true → St base N μ0 w0 e h a w →
    c.wp P (CPost base N μ0 w0 r K) a w
  | .skip, e, h, K, a, w, hrun, hd, hst => wp_skip ⟨.normal, e, h, trivial, hrun, hst⟩
  | .region id all draw, e, h, K, a, w, hrun, hd, hst => by
    simp only [code] at hrun
    cases draw with
    | false => exact region_sim hT hmix hC hd hst (by simp) (.inl ⟨.inl rfl, hrun⟩)
    | true =>
      simp only at hrun
      cases hok : drawOk T all with
      | false => simp [hok] at hrun
      | true =>
        rw [hok] at hrun
        refine region_sim hT hmix hC hd hst (fun _ => hok) ?_
        cases hsf : softs T all with
        | nil =>
          rw [hsf] at hrun
          exact .inl ⟨.inr rfl, hrun⟩
        | cons s ss =>
          rw [hsf] at hrun
          simp only at hrun
          obtain ⟨es, hs, e1, e2, e3, e4⟩ := opsTr_ops _ _ _ _ _ hrun
          refine .inr ⟨rfl, es, hs, e1, e2, ⟨fun i o ho => e3 i o (by simpa using ho), ?_⟩, ?_⟩
          · intro i lo hi o hm ho m hlo hhi
            split at e4
            · rename_i hok2
              rw [← hsf] at hok2
              obtain ⟨p, v, h1, hp, hv, hall⟩ := softOk_get hok2 hm ho
              obtain ⟨p2, h2, hp2, hv2⟩ := hall m hlo hhi
              have hget : ∀ (k : Nat) (q : Env × AH), (([] : List (Env × AH)) ++ (List.range (all.toList.length + 1)).map fun j => (es j, hs j))[k]? = some q → q = (es k, hs k) := by
                intro k q hq
                rw [List.nil_append, List.getElem?_map] at hq
                by_cases hk : k < all.toList.length + 1
                · rw [List.getElem?_range hk] at hq; simpa using hq.symm
                · rw [List.getElem?_eq_none (by simp at hk ⊢; omega)] at hq; simp at hq
              have e5 := hget i p hp
              have e6 := hget m p2 hp2
              subst e5; subst e6
              exact ⟨v, h1, h2, hv, hv2⟩
            · cases e4
          · split at e4
            · simpa using e4
            · cases e4
  | .seq x y, e, h, K, a, w, hrun, hd, hst => by
    simp only [dstOk, Bool.and_eq_true] at hd
    refine wp_seq (wp_mono (code_sim n x e h _ a w hrun hd.1 hst) ?_)
    rintro ex a' w' ⟨ex', e', h', hex, hK, hst'⟩
    cases ex' with
    | normal =>
      cases ex <;> simp only [exR] at hex
      exact code_sim n y e' h' K a' w' hK hd.2 hst'
    | exit i =>
      cases ex <;> simp only [exR] at hex
      subst hex
      exact ⟨.exit i, e', h', rfl, hK, hst'⟩
    | ret =>
      cases ex <;> simp only [exR] at hex
      exact ⟨.ret, e', h', trivial, hK, hst'⟩
  | .cond c x y, e, h, K, a, w, hrun, hd, hst => by
    simp only [dstOk, Bool.and_eq_true] at hd
    simp only [code, aCond] at hrun
    have hc : ∀ b, ev e c = .bool b → a.eval c = .bool b := by
      intro b hb
      obtain ⟨μ, _, he, _⟩ := hst
      have := ev_sim he c
      rw [hb] at this
      exact this.bool_inv
    split at hrun
    · rename_i hb; exact wp_cond_true (hc true hb) (code_sim n x e h K a w hrun hd.1 hst)
    · rename_i hb; exact wp_cond_false (hc false hb) (code_sim n y e h K a w hrun hd.2 hst)
    · cases hrun
  | .block id c, e, h, K, a, w, hrun, hd, hst => by
    refine wp_block (wp_mono (code_sim n c e h _ a w hrun hd hst) ?_)
    rintro ex a' w' ⟨ex', e', h', hex, hK, hst'⟩
    cases ex' with
    | normal =>
      cases ex <;> simp only [exR] at hex
      exact ⟨.normal, e', h', trivial, hK, hst'⟩
    | exit i =>
      cases ex <;> simp only [exR] at hex
      subst hex
      simp only [blkK] at hK
      simp only [Exit.inBlock]
      cases hb : Nat.beq i id with
      | true =>
        have := Nat.eq_of_beq_eq_true hb
        rw [hb] at hK
        rw [if_pos this]
        exact ⟨.normal, e', h', trivial, hK, hst'⟩
      | false =>
        have := Nat.ne_of_beq_eq_false hb
        rw [hb] at hK
        rw [if_neg this]
        exact ⟨.exit i, e', h', rfl, hK, hst'⟩
    | ret =>
      cases ex <;> simp only [exR] at hex
      exact ⟨.ret, e', h', trivial, hK, hst'⟩
  | .loop c, e, h, K, a, w, hrun, hd, hst => by
    have key : ∀ m e h a w, iterL m (code C T n c) e h K = some r → St base N μ0 w0 e h a w → Code.rounds P c (CPost base N μ0 w0 r K) m a w := by
      intro m
      induction m with
      | zero => intro e h a w hr; simp [iterL] at hr
      | succ m ih =>
        intro e h a w hr hs
        rw [rounds_succ]
        refine wp_mono (code_sim n c e h _ a w hr hd hs) ?_
        rintro ex a' w' ⟨ex', e', h', hex, hK, hst'⟩
        cases ex' with
        | normal =>
          cases ex <;> simp only [exR] at hex
          exact ih e' h' a' w' hK hst'
        | exit i =>
          cases ex <;> simp only [exR] at hex
          subst hex
          exact ⟨.exit i, e', h', rfl, hK, hst'⟩
        | ret =>
          cases ex <;> simp only [exR] at hex
          exact ⟨.ret, e', h', trivial, hK, hst'⟩
    exact wp_loop_rounds n (key n e h a w hrun hst)
  | .exit id, e, h, K, a, w, hrun, hd, hst => wp_exit ⟨.exit id, e, h, rfl, hrun, hst⟩
  | .ret, e, h, K, a, w, hrun, hd, hst => wp_ret ⟨.ret, e, h, trivial, hrun, hst⟩
  | .rangeFunc .., e, h, K, a, w, hrun, hd, hst => by simp [code] at hrun
  | .scope _, e, h, K, a, w, hrun, hd, hst => by simp [code] at hrun
  | .label _, e, h, K, a, w, hrun, hd, hst => by simp [code] at hrun
  | .goto _, e, h, K, a, w, hrun, hd, hst => by simp [code] at hrun
  | .refuse _, e, h, K, a, w, hrun, hd, hst => by simp [code] at hrun

end

/-- The table of functions is the program's. -/
structure FAgree (P : Program) (F : Nat → Option FI) : Prop where
  fn : ∀ f fi, F f = some fi → ∃ fn, P.funcs[f]? = some fn ∧ fn.body = some fi.body ∧ fn.results.toList = fi.results ∧ dstOk fn.ntmps fi.body = true ∧ (fn.name == "runtime.NumGoroutine") = false

/-- What is known of functions that are taken by what they return. -/
structure IAgree (P : Program) (I : Nat → Option (List AV → Option AV)) : Prop where
  fn : ∀ f g, I f = some g → (∀ (as : Array Value) (w : World), (callFunc f as).run P w = .ok (.enter f as) w) ∧
    ∀ (args : List AV) (v : AV), g args = some v → ∀ (μ : Img) (vs : List Value) (w : World), VRL μ args vs →
      Calls P f vs.toArray w (fun e w' => ∃ v', e = .returned v' ∧ (∀ μ, VR μ v v') ∧ Below w.heap.size w w')

theorem HR.below {base : Nat} {μ : Img} {h : AH} {w w' : World} (hr : HR base μ h w.heap) (hB : Below w.heap.size w w') : HR base μ h w'.heap := by
  refine ⟨fun b x hb => ⟨(hr.dom b x hb).1, Nat.lt_of_lt_of_le (hr.dom b x hb).2 hB.size⟩, fun b x hb => ⟨(hr.blk b x hb).1, (hr.blk b x hb).2.keep (Img.le.refl _) fun cb δ N hm => hB.block cb (hr.dom b _ hm).2⟩, hr.inj, Nat.le_trans hr.base hB.size⟩

theorem results_sim {P : Program} {T : TT} (hT : TAgree P T) {base : Nat} {μ : Img} {e : Env} {a : Act} (he : ER μ e a) {h : AH} {w : World} (hr : HR base μ h w.heap) :
    ∀ (rs : List ResultVar) (vs : List AV), resultsOf T rs e h = some vs → ∃ us : List Value, VRL μ vs us ∧
      ∀ f : ResultVar → Sem Value, (∀ t, f (.tmp t) = pure (a.tmps.getD t undef)) → (∀ b t, f (.cell b t) = (do loadVar t (← asAddr (a.tmps.getD b undef)))) → (rs.mapM f).run P w = .ok us w
  | [], vs, hrs => by
    simp only [resultsOf, Option.some.injEq] at hrs; subst hrs
    exact ⟨[], VRL.nil, fun f _ _ => by simp⟩
  | .tmp t :: rs, vs, hrs => by
    simp only [resultsOf, Option.map_eq_some_iff] at hrs
    obtain ⟨vs', hvs', rfl⟩ := hrs
    obtain ⟨us, hv, hrun⟩ := results_sim hT he hr rs vs' hvs'
    refine ⟨a.tmps.getD t undef :: us, VRL.cons (he t) hv, fun f h1 h2 => ?_⟩
    simp only [List.mapM_cons, Sem.run_bind, h1, Sem.run_pure, Result.andThen_ok, hrun f h1 h2]
  | .cell b t :: rs, vs, hrs => by
    simp only [resultsOf, Option.bind_eq_some_iff, Option.map_eq_some_iff] at hrs
    obtain ⟨v, hv, vs', hvs', rfl⟩ := hrs
    obtain ⟨us, hvr, hrun⟩ := results_sim hT he hr rs vs' hvs'
    obtain ⟨v', hload, hv'⟩ := load_sim hT hr (he b) hv
    refine ⟨v' :: us, VRL.cons hv' hvr, fun f h1 h2 => ?_⟩
    have hptr : ∃ ad, a.tmps.getD b undef = .pointer (some ad) := by
      unfold aLoad at hv
      have heb := he b
      split at hv
      · rename_i bb oo heq
        rw [heq] at heb
        obtain ⟨cb, δ, N, _, hp⟩ := heb.ptr_inv
        exact ⟨_, hp⟩
      · cases hv
    obtain ⟨ad, had⟩ := hptr
    rw [had] at hload
    simp only [Instr.loadAt, Instr.sureAddr, Sem.run_bind, Sem.run_pure, Result.andThen_ok] at hload
    have hasa : (asAddr (.pointer (some ad))).run P w = .ok ad w := rfl
    simp only [List.mapM_cons, Sem.run_bind, h2, had, hasa, Sem.run_pure, Result.andThen_ok, hload, hrun f h1 h2]

theorem call_sim {P : Program} {T : TT} (hT : TAgree P T) (hmix : P.follows .mixedOrders = true) {F : Nat → Option FI} (hF : FAgree P F) {I : Nat → Option (List AV → Option AV)} (hI : IAgree P I) (base : Nat) :
    ∀ n, CallOK P base (call F I T n)
  | 0 => fun f args h v h' hc => by simp [call] at hc
  | n + 1 => fun f args h v h' hc => by
    simp only [call] at hc
    cases hIf : I f with
    | some g =>
      simp only [hIf, Option.map_eq_some_iff, Prod.mk.injEq] at hc
      obtain ⟨v1, hv1, rfl, rfl⟩ := hc
      obtain ⟨h1, h2⟩ := hI.fn f g hIf
      refine ⟨h1, fun μ w vs hvs hr => (h2 args v1 hv1 μ vs w hvs).mono ?_⟩
      rintro e w' ⟨v', rfl, hv', hB⟩
      exact ⟨v', rfl, μ, Img.le.refl μ, hv' μ, hr.below hB, hB.mono hr.base⟩
    | none =>
      simp only [hIf] at hc
      cases hFf : F f with
      | none => simp [hFf] at hc
      | some fi =>
        simp only [hFf, body] at hc
        obtain ⟨fn, hfn, hbody, hres, hdst, hname⟩ := hF.fn f fi hFf
        have hname' : ¬ fn.name = "runtime.NumGoroutine" := by simpa using hname
        refine ⟨fun as w => by simp [callFunc, hfn, hname', hbody], fun μ w vs hvs hr => ?_⟩
        refine calls_of_wp hfn hbody ?_
        have hlen := hvs.length
        have hst : St base (vs.toArray ++ Array.replicate (fn.ntmps - vs.toArray.size) undef).size μ w (env0 args) h { tmps := vs.toArray ++ Array.replicate (fn.ntmps - vs.toArray.size) undef, defers := [] } w := by
          refine ⟨μ, Img.le.refl μ, fun t => ?_, hr, rfl, rfl, .refl _ _⟩
          unfold env0
          cases ha : args[t]? with
          | none => exact VR.mk_bad _
          | some x =>
            obtain ⟨u, hu, hur⟩ := hvs.get ha
            have hlt : t < vs.length := (List.getElem?_eq_some_iff.1 hu).1
            simp only [Option.getD_some]
            rw [Array.getD_eq_getD_getElem?, Array.getElem?_append_left (by simpa using hlt)]
            simp only [List.getElem?_toArray, hu, Option.getD_some]
            exact hur
        refine wp_mono (code_sim hT hmix (call_sim hT hmix hF hI base n) n fi.body (env0 args) h (retK T fi.results) _ w hc (dstOk_mono (by simp; omega) _ hdst) hst) ?_
        rintro ex a' w' ⟨ex', e', h2, hex, hK, μ', hμ, he, hr', _, hdf, hB⟩
        have hfin : (resultsOf T fi.results e' h2).map (fun vs => (oneOrAll vs, h2)) = some (v, h') → a'.defers = [] ∧ ∃ u, (results fn a'.tmps).run P w' = .ok u w' ∧ (∃ v', (Ending.returned u) = .returned v' ∧ Grows base μ w v h' v' w') := by
          intro hm
          simp only [Option.map_eq_some_iff, Prod.mk.injEq] at hm
          obtain ⟨vs', hvs', rfl, rfl⟩ := hm
          obtain ⟨us, hvr, hrun⟩ := results_sim hT he hr' fi.results vs' hvs'
          have hres' : (results fn a'.tmps).run P w' = .ok (if h : us.toArray.size = 1 then us.toArray[0] else .tuple us.toArray) w' := by
            unfold results
            simp only [Sem.run_bind, Sem.run_pure]
            rw [Array.mapM_eq_mapM_toList, Sem.run_map, hres, hrun _ (fun _ => rfl) (fun _ _ => rfl)]
            rfl
          refine ⟨hdf, _, hres', _, rfl, μ', hμ, ?_, hr', hB⟩
          have hl := hvr.length
          cases us with
          | nil =>
            cases vs' with
            | nil => exact VR.mk_tup (by simpa using hvr)
            | cons _ _ => simp at hl
          | cons u us =>
            cases us with
            | nil =>
              cases vs' with
              | nil => simp at hl
              | cons x xs =>
                cases xs with
                | cons _ _ => simp at hl
                | nil =>
                  obtain ⟨_, _, he', hx, _⟩ := hvr.cons_inv
                  cases he'
                  exact hx
            | cons u2 us =>
              cases vs' with
              | nil => simp at hl
              | cons x xs =>
                cases xs with
                | nil => simp at hl
                | cons y ys => exact VR.mk_tup (by simpa using hvr)
        cases ex' with
        | normal =>
          cases ex <;> simp only [exR] at hex
          exact hfin hK
        | exit i => simp [retK] at hK
        | ret =>
          cases ex <;> simp only [exR] at hex
          exact hfin hK

end Go.AM
