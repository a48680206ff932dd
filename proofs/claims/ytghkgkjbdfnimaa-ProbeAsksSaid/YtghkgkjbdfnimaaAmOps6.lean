/- copy, clear, min, max; and one operation as a step. Own work. -/
import Derived.Test.YtghkgkjbdfnimaaAmOps5
import Derived.RangeFuncNested
namespace Go.AM
open Go Go.RowKit
set_option linter.unusedVariables false
set_option linter.unusedSimpArgs false
set_option linter.unusedSectionVars false

section
variable {P : Program} {T : TT} (hT : TAgree P T) {μ : Img} (w : World) {B : BS P} {h : AH} (hr : HR B μ h w.heap)
include hT hr

theorem copy_sim {t : TypeId} {d s v : AV} {dv sv : Value} {h' : AH} (hd : VR μ d dv) (hs : VR μ s sv) (hl : aCopy T t d s h = some (v, h')) (ts : Array TypeId) (hts : ts[0]? = some t) (ty : TypeId) :
    ∃ v' w', (Builtin.copy_ ts ty #[dv, sv]).run P w = .ok v' w' ∧ Grows B μ w v h' v' w' := by
  unfold aCopy at hl
  split at hl
  · rename_i ti ht
    have hu := run_und hT ht w
    split at hl
    · rename_i e hde
      split at hl
      · rename_i te hte
        split at hl
        · cases hl
        · rename_i n cs hsrc
          obtain ⟨vs, hlen, hfirst, hvr, hnl, htake⟩ := source_sim hT w hr hs hsrc
          split at hl
          · cases hl
            have := hd.nils_inv; subst this
            have ht0 := htake 0 (Nat.zero_le _)
            refine ⟨.int .i64 0, w, ?_, μ, Img.le.refl μ, VR.mk_int _ _, hr, .refl _ _⟩
            simp [Builtin.copy_, hts, hu, hde, hlen, run_sz hT hte, ht0, goInt]
          · rename_i b o len cap sz ex
            obtain ⟨cb, δ, N, a, c, hm, rfl, hor, hlc, hcc, hex⟩ := hd.sl_inv
            split at hl
            · rename_i hsz
              cases hst : h.storen b o (cs.take (min n len * sz)) with
              | none => simp [hst] at hl
              | some h2 =>
                simp [hst] at hl
                obtain ⟨rfl, rfl⟩ := hl
                have hmn : min n len ≤ n := Nat.min_le_left _ _
                have htk := htake (min n len) hmn
                obtain ⟨w', hrun', hr', hB⟩ := storen_sim hT w hr hst (hvr.take (min n len * sz)) hm
                refine ⟨.int .i64 ((min n len : Nat) : Int), w', ?_, μ, Img.le.refl μ, by rw [show ((min n len : Nat) : Int) = min (n : Int) len by omega]; exact VR.mk_int _ _, hr', hB⟩
                have hmin : Nat.min n len = min n len := rfl
                rcases hor with h0 | ⟨ha, hN⟩
                · have hl0 : len = 0 := by omega
                  subst hl0
                  have hww : w' = w := by simp [storeCells] at hrun'; exact hrun'.symm
                  subst hww
                  simp [Builtin.copy_, hts, hu, hde, hlen, run_sz hT hte, hmin, goInt, hsz] at htk ⊢
                  simp [htk, storeCells]
                · subst ha
                  rw [hsz] at htk
                  simp [Builtin.copy_, hts, hu, hde, hlen, run_sz hT hte, hmin, goInt, hsz, htk, hrun']
            · cases hl
          · cases hl
      · cases hl
    · cases hl
  · cases hl

theorem clear_sim {t : TypeId} {x : AV} {xv : Value} {h' : AH} (hx : VR μ x xv) (hl : aClear T t x h = some h') (ty : TypeId) :
    ∃ w', (Builtin.clear_ #[t] ty #[xv]).run P w = .ok (.tuple #[]) w' ∧ HR B μ h' w'.heap ∧ BelowS B w w' := by
  unfold aClear at hl
  split at hl
  · rename_i ti ht
    have hu := run_und hT ht w
    split at hl
    · cases hl; have := hx.nils_inv; subst this
      exact ⟨w, by simp [Builtin.clear_, hu], hr, .refl _ _⟩
    · cases hl; have := hx.nilm_inv; subst this
      exact ⟨w, by simp [Builtin.clear_, hu], hr, .refl _ _⟩
    · rename_i b o len cap sz ex
      obtain ⟨cb, δ, N, a, c, hm, rfl, hor, hlc, hcc, hex⟩ := hx.sl_inv
      split at hl
      · rename_i e hd
        split at hl
        · rename_i te hte
          split at hl
          · rename_i hsz
            obtain ⟨z, hz, hzs, hzr⟩ := run_zero hT hte w
            obtain ⟨w', hrun', hr', hB⟩ := storen_sim hT w hr hl (repl_sim (hzr μ) len) hm
            by_cases hl0 : len = 0
            · subst hl0
              have hww : w' = w := by simp [storeCells] at hrun'; exact hrun'.symm
              subst hww
              exact ⟨w', by simp [Builtin.clear_, hu], hr', hB⟩
            · have ha : a = ⟨cb, δ + o, none⟩ := by rcases hor with h0 | h0; · omega
                                                    exact h0.1
              subst ha
              refine ⟨w', ?_, hr', hB⟩
              obtain ⟨m, rfl⟩ : ∃ m, len = m + 1 := ⟨len - 1, by omega⟩
              rw [hd] at hu
              simp [Builtin.clear_, hu, hz, Builtin.zeroCells]
              simp at hrun'
              simp [hrun']
          · cases hl
        · cases hl
      · cases hl
    · rename_i b
      obtain ⟨cb, δ, N, hm, rfl⟩ := hx.mp_inv
      split at hl
      · rename_i es hb
        cases hl
        obtain ⟨_, cb', δ', N', ents, clock, g1, g2, g3, g4⟩ := hr.blk b _ hb
        rw [hm] at g1; cases g1
        have hlt : cb < w.heap.size := (Array.getElem?_eq_some_iff.1 g2).1
        refine ⟨{ w with heap := w.heap.setIfInBounds cb (.map #[] clock) }, ?_, ?_, below_set w cb _ g3⟩
        · have hg : (getObj cb).run P w = .ok (.map ents clock) w := by simp [getObj, Sem.run, g2]
          have hset : (setObj cb (.map #[] clock)).run P w = .ok () { w with heap := w.heap.setIfInBounds cb (.map #[] clock) } := by simp [setObj, Sem.run, g2]
          simp [Builtin.clear_, hu, hg, hset]
        · exact hr.write hb rfl hm g3 ⟨cb, δ, N, #[], clock, hm, by simp [hlt], g3, ⟨rfl, by simp⟩⟩
      · cases hl
    · cases hl
  · cases hl

omit hT hr in
theorem min_sim {x y v : AV} {xv yv : Value} (hx : VR μ x xv) (hy : VR μ y yv) (hl : aMin x y = some v) (ts : Array TypeId) (ty : TypeId) : ∃ v', (Builtin.min_ ts ty #[xv, yv]).run P w = .ok v' w ∧ VR μ v v' := by
  unfold aMin at hl
  split at hl
  · cases hl
    have := hx.int_inv; subst this
    have := hy.int_inv; subst this
    exact ⟨_, by simp only [Builtin.min_]; rfl, VR.mk_int _ _⟩
  · cases hl

omit hT hr in
theorem max_sim {x y v : AV} {xv yv : Value} (hx : VR μ x xv) (hy : VR μ y yv) (hl : aMax x y = some v) (ts : Array TypeId) (ty : TypeId) : ∃ v', (Builtin.max_ ts ty #[xv, yv]).run P w = .ok v' w ∧ VR μ v v' := by
  unfold aMax at hl
  split at hl
  · cases hl
    have := hx.int_inv; subst this
    have := hy.int_inv; subst this
    exact ⟨_, by simp only [Builtin.max_]; rfl, VR.mk_int _ _⟩
  · cases hl

end

/-- What a call of yield comes to. -/
def YieldOK (P : Program) (cb : Nat) (vs : List Value) (w : World) (R : Ending → World → Prop) : Prop :=
  ∃ fn tmps asg bdy, (Instr.yield cb vs.toArray).run P w = .ok (.round cb fn tmps asg bdy) w ∧ RoundIn Fence.wide 0 P cb fn tmps asg bdy w R

/-- The functions that may be called: each is entered, and comes to what is said. -/
def CallOK (P : Program) (B : BS P) (C : Cf) : Prop :=
  ∀ f args h v h', C f args h = some (v, h') →
    (Nat.beq f YLD = false → (∀ (as : Array Value) (w : World), (callFunc f as).run P w = .ok (.enter f as) w) ∧
      ∀ (μ : Img) (w : World) (vs : List Value), VRL μ args vs → HR B μ h w.heap → Calls P f vs.toArray w (fun e w' => ∃ v', e = .returned v' ∧ Grows B μ w v h' v' w')) ∧
    (Nat.beq f YLD = true → ∀ l as, args = .yld l :: as → ∀ (μ : Img) (w : World) (vs : List Value) cb δ N, VRL μ as vs → HR B μ h w.heap → μ l = some (cb, δ, N) →
      YieldOK P cb vs w (fun e w' => ∃ v', e = .returned v' ∧ Grows B μ w v h' v' w'))

theorem Grows.same {P : Program} {B : BS P} {μ : Img} {w : World} {v : AV} {h : AH} {v' : Value} (hv : VR μ v v') (hr : HR B μ h w.heap) : Grows B μ w v h v' w :=
  ⟨μ, Img.le.refl μ, hv, hr, .refl _ _⟩

/-- The fence of a call's own code, and of a loop's body. -/
def WF : Option Nat → Fence
  | none => Fence.wide
  | some l => Fence.wide.inRound l
theorem WF_fn (ro : Option Nat) (f : FuncId) : (WF ro).fn f := by cases ro <;> trivial
theorem WF_depth (ro : Option Nat) : ((WF ro).depth).isSome = true → 1 ≤ 0 := by cases ro <;> simp [WF, Fence.wide, Fence.inRound]
theorem WF_round (ro : Option Nat) : (WF ro).round = ro := by cases ro <;> rfl
theorem WF_calls {P : Program} {ro : Option Nat} {f : FuncId} {as : Array Value} {w : World} {R : Ending → World → Prop} (h : Calls P f as w R) : CallsIn (WF ro) (0 - 1) P f as w R := by
  cases ro with
  | none => exact callsIn_wide.2 h
  | some l => exact CallsIn.inRound l (callsIn_wide.2 h)
theorem WF_roundIn {P : Program} {ro : Option Nat} {l f tmps asg bdy} {w : World} {R : Ending → World → Prop} (h : RoundIn Fence.wide 0 P l f tmps asg bdy w R) : RoundIn (WF ro) (0 - 1) P l f tmps asg bdy w R := by
  cases ro with
  | none => exact h
  | some l => exact h

section
variable {P : Program} {ro : Option Nat} {o : Oper} {a : Act} {w w' : World} {next : Act → World → Prop} {Q : Exit → Act → World → Prop}
theorem semAt_exec {ρ : Operand → Value} (hnd : ∀ c, o.op ≠ .defer c) : o.semAt (WF ro).round ρ = execOp ρ o := Oper.semAt_eq _ _ _ hnd
theorem wp_value {v : Value} (hrun : (execOp a.eval o).run P w = .ok (.value v) w') (h : next (a.put o.dst v) w') (hnd : ∀ c, o.op ≠ .defer c := by intro c hc; cases hc) : o.wpIn (WF ro) 0 P a w next Q := by
  unfold Oper.wpIn; rw [semAt_exec hnd, hrun]; exact ⟨fun _ _ => WF_fn _ _, h⟩
theorem wp_skp (hrun : (execOp a.eval o).run P w = .ok .skip w') (h : next (a.put o.dst undef) w') (hnd : ∀ c, o.op ≠ .defer c := by intro c hc; cases hc) : o.wpIn (WF ro) 0 P a w next Q := by
  unfold Oper.wpIn; rw [semAt_exec hnd, hrun]; exact ⟨fun _ _ => WF_fn _ _, h⟩
theorem wp_enter {f : FuncId} {as : Array Value} {R : Ending → World → Prop} (hrun : (execOp a.eval o).run P w = .ok (.enter f as) w') (hc : Calls P f as w' R)
    (h : ∀ e w'', R e w'' → ∃ v, e = .returned v ∧ next (a.put o.dst v) w'') (hnd : ∀ c, o.op ≠ .defer c := by intro c hc; cases hc) : o.wpIn (WF ro) 0 P a w next Q := by
  unfold Oper.wpIn; rw [semAt_exec hnd, hrun, Oper.uponIn_enter]
  refine ⟨fun _ _ => WF_fn _ _, WF_depth ro, (WF_calls hc).mono ?_⟩
  intro e w'' hR
  obtain ⟨v, rfl, hn⟩ := h e w'' hR
  exact hn
theorem wp_round {l : Nat} {f : FuncId} {tmps : Array Value} {asg bdy : Code} {R : Ending → World → Prop} (hrun : (execOp a.eval o).run P w = .ok (.round l f tmps asg bdy) w') (hc : RoundIn Fence.wide 0 P l f tmps asg bdy w' R)
    (h : ∀ e w'', R e w'' → ∃ v, e = .returned v ∧ next (a.put o.dst v) w'') (hnd : ∀ c, o.op ≠ .defer c := by intro c hc; cases hc) : o.wpIn (WF ro) 0 P a w next Q := by
  unfold Oper.wpIn; rw [semAt_exec hnd, hrun, Oper.uponIn_round]
  refine ⟨fun _ _ => WF_fn _ _, WF_depth ro, (WF_roundIn hc).mono ?_⟩
  intro e w'' hR
  obtain ⟨v, rfl, hn⟩ := h e w'' hR
  exact hn
end

theorem range_sim' {P : Program} {T : TT} (hT : TAgree P T) {B : BS P} {μ : Img} {h : AH} (w : World) (hr : HR B μ h w.heap) {t : TypeId} {x v : AV} {xv : Value} {h' : AH} (hx : VR μ x xv) (hl : aRange T t x h = some (v, h')) :
    ∃ v' w', (Instr.range t xv).run P w = .ok v' w' ∧ Grows B μ w v h' v' w' := by
  unfold aRange at hl
  split at hl
  case h_2 => cases hl
  rename_i ti ht
  have hu := run_und hT ht w
  split at hl
  case h_2 => cases hl
  rename_i s hd
  cases hl
  rw [hx.str_inv]
  refine ⟨.pointer (some ⟨w.heap.size, 0, none⟩), { w with heap := w.heap.push (.stringIter ⟨⟨s⟩⟩ 0) }, ?_, _, Img.le_upd hr.fresh, VR.mk_ptr (upd_self _ _ (w.heap.size, 0, 0)) rfl, ?_, below_push w _ hr.base⟩
  · simp only [Instr.range, Sem.run_bind, hu, hd, Result.andThen_ok, Sem.run_pure, newObj, Sem.run]
  · exact hr.alloc (.iter s 0) _ 0 0 ⟨w.heap.size, 0, 0, upd_self _ _ _, by simp, fun hb => absurd (hr.base _ hb) (Nat.lt_irrefl _), rfl⟩

theorem next_sim {P : Program} {B : BS P} {μ : Img} {h : AH} (w : World) (hr : HR B μ h w.heap) {x v : AV} {xv : Value} {s : Bool} {h' : AH} (hx : VR μ x xv) (hl : aNext x s h = some (v, h')) (ty : TypeId) :
    ∃ v' w', (Instr.next xv s ty).run P w = .ok v' w' ∧ Grows B μ w v h' v' w' := by
  unfold aNext at hl
  split at hl
  case h_2 => cases hl
  rename_i b
  obtain ⟨cb, δ, N, hm, rfl⟩ := hx.ptr_inv
  split at hl
  case h_2 => cases hl
  rename_i s pos hb
  obtain ⟨_, cb', δ', N', h1, h2, h3, h4⟩ := hr.blk b _ hb
  rw [hm] at h1; cases h1
  subst h4
  have hsz : (⟨⟨s⟩⟩ : ByteArray).size = s.length := rfl
  split at hl
  · rename_i hlt
    cases hl
    refine ⟨.tuple #[.bool true, .int .i64 pos, .int .i32 (Utf8.decode ⟨⟨s⟩⟩ pos).1], { w with heap := w.heap.setIfInBounds cb (.stringIter ⟨⟨s⟩⟩ (pos + (Utf8.decode ⟨⟨s⟩⟩ pos).2)) }, ?_, μ, Img.le.refl μ, ?_, ?_, below_set w cb _ h3⟩
    · have hlt2 : cb < w.heap.size := (Array.getElem?_eq_some_iff.1 h2).1
      have hlt' : pos < (⟨⟨s⟩⟩ : ByteArray).size := by rw [hsz]; exact hlt
      simp only [Instr.next, Nat.add_zero, getObj, setObj, Sem.run_bind, Sem.run, h2, Result.andThen_ok, Sem.run_pure, if_pos hlt', goInt]
    · refine VR.mk_tup ?_
      exact VRL.cons (VR.mk_bool _) (VRL.cons (VR.mk_int _ _) (VRL.cons (VR.mk_int _ _) VRL.nil))
    · have hlt2 : cb < w.heap.size := (Array.getElem?_eq_some_iff.1 h2).1
      exact hr.write hb rfl hm h3 ⟨cb, 0, N, hm, by simp [hlt2], h3, rfl⟩
  · rename_i hlt
    cases hl
    refine ⟨.tuple #[.bool false], w, ?_, .same (VR.mk_tup (VRL.cons (VR.mk_bool _) VRL.nil)) hr⟩
    have hlt' : ¬ pos < (⟨⟨s⟩⟩ : ByteArray).size := by rw [hsz]; exact hlt
    simp only [Instr.next, Nat.add_zero, getObj, Sem.run_bind, Sem.run, h2, Result.andThen_ok, Sem.run_pure, if_neg hlt']

theorem sameA_sim {μ : Img} {k k' : AV} {v v' : Value} {b : Bool} (ik : IntKind) (h : VR μ k v) (h' : VR μ k' v') (hs : sameA k k' = some b) : Instr.sameNow (.int ik) v v' = some b := by
  unfold sameA at hs
  split at hs
  · rw [h.int_inv, h'.int_inv]; exact hs
  · cases hs
theorem findA_sim {μ : Img} {k : AV} {kv : Value} (ik : IntKind) (hk : VR μ k kv) : ∀ (es : List (AV × AV)) (ents : List MapEntry) (i : Nat) (r : Option (Nat × AV)), es.length = ents.length → (∀ (j : Nat) (k v : AV), es[j]? = some (k, v) → ∃ e : MapEntry, ents[j]? = some e ∧ VR μ k e.key ∧ VR μ v e.val) → findA k es i = some r →
    (r = none ∧ Instr.findNow (.int ik) kv ents i = some none) ∨ ∃ j v e, r = some (i + j, v) ∧ ents[j]? = some e ∧ VR μ v e.val ∧ Instr.findNow (.int ik) kv ents i = some (some (i + j, e.val)) ∧ ∃ k', es[j]? = some (k', v) ∧ sameA k k' = some true
  | [], ents, i, r, hl, hrel, h => by
    obtain rfl : ents = [] := List.length_eq_zero_iff.1 hl.symm
    cases h
    exact .inl ⟨rfl, rfl⟩
  | (k', v) :: es, ents, i, r, hl, hrel, h => by
    cases ents with
    | nil => simp at hl
    | cons e ents =>
      obtain ⟨e', he', r1, r2⟩ := hrel 0 k' v rfl
      cases he'
      unfold findA at h
      split at h
      · rename_i hs
        cases h
        refine .inr ⟨0, v, e, rfl, rfl, r2, ?_, k', rfl, hs⟩
        rw [Instr.findNow, sameA_sim ik hk r1 hs]; rfl
      · rename_i hs
        rcases findA_sim ik hk es ents (i + 1) r (by simpa using hl) (fun j k v hj => by simpa using hrel (j + 1) k v (by simpa using hj)) h with ⟨h1, h2⟩ | ⟨j, v', e', h1, h2, h3, h4, k2, h5, h6⟩
        · refine .inl ⟨h1, ?_⟩
          rw [Instr.findNow, sameA_sim ik hk r1 hs]; exact h2
        · refine .inr ⟨j + 1, v', e', by rw [h1]; congr 2; omega, by simpa using h2, h3, ?_, k2, by simpa using h5, h6⟩
          rw [Instr.findNow, sameA_sim ik hk r1 hs]
          show Instr.findNow _ _ _ _ = _
          rw [h4]; congr 3; omega
      · cases h
theorem intMap_inv {P : Program} {T : TT} (hT : TAgree P T) {t : TypeId} {zv : Option AV} (h : intMap T t = some zv) (w : World) : ∃ kt et te ik, (underlying t).run P w = .ok (.map kt et) w ∧ (underlying kt).run P w = .ok (.int ik) w ∧ T et = some te ∧ te.zv = zv := by
  unfold intMap at h
  split at h
  · rename_i ti ht
    split at h
    · rename_i kt et hd
      split at h
      · rename_i tk te hk he
        split at h
        · rename_i ik hkd
          cases h
          exact ⟨kt, et, te, ik, by rw [run_und hT ht, hd], by rw [run_und hT hk, hkd], he, rfl⟩
        · cases h
      · cases h
    · cases h
  · cases h
theorem checkKey_int {P : Program} {w : World} {kt : TypeId} {ik : IntKind} (hk : (underlying kt).run P w = .ok (.int ik) w) (b : Bool) (v : Value) : (Instr.checkKey b 10000 kt v).run P w = .ok () w := by
  show (Instr.checkKey b (9999 + 1) kt v).run P w = _
  rw [Instr.checkKey]
  simp only [Sem.run_bind, hk, Result.andThen_ok, Sem.run_pure]
theorem findKey_now {P : Program} {w : World} {kt : TypeId} {ik : IntKind} (hk : (underlying kt).run P w = .ok (.int ik) w) {v : Value} {es : List MapEntry} {r : Option (Nat × Value)} (h : Instr.findNow (.int ik) v es 0 = some r) : (Instr.findKey kt v es).run P w = .ok r w := by
  simp only [Instr.findKey, Sem.run_bind, hk, Result.andThen_ok, h, Sem.run_pure]
theorem mapEs_sim {P : Program} {B : BS P} {μ : Img} {h : AH} {w : World} (hr : HR B μ h w.heap) {x : AV} {xv : Value} {es : List (AV × AV)} (hx : VR μ x xv) (hm : mapEs x h = some es) :
    ∃ ents : Array MapEntry, EntsR μ es ents ∧ (xv = .map none ∧ ents = #[] ∨ ∃ r clock, xv = .map (some r) ∧ (getObj r).run P w = .ok (.map ents clock) w) := by
  unfold mapEs at hm
  split at hm
  · cases hm
    exact ⟨#[], ⟨rfl, fun j k v hj => by simp at hj⟩, .inl ⟨hx.nilm_inv, rfl⟩⟩
  · rename_i b
    obtain ⟨cb, δ, N, hmu, rfl⟩ := hx.mp_inv
    split at hm
    · rename_i es' hb
      cases hm
      obtain ⟨_, cb', δ', N', ents, clock, g1, g2, g3, g4⟩ := hr.blk b _ hb
      rw [hmu] at g1; cases g1
      exact ⟨ents, g4, .inr ⟨cb, clock, rfl, by simp [getObj, Sem.run, g2]⟩⟩
    · cases hm
  · cases hm
theorem lookup_sim {P : Program} {T : TT} (hT : TAgree P T) {B : BS P} {μ : Img} {h : AH} {w : World} (hr : HR B μ h w.heap) {t : TypeId} {x k v : AV} {xv kv : Value} {ok : Bool} (hx : VR μ x xv) (hk : VR μ k kv) (hl : aLookup T t x k ok h = some v) :
    ∃ v', (Instr.lookup t xv kv ok).run P w = .ok v' w ∧ VR μ v v' := by
  unfold aLookup at hl
  split at hl
  case h_2 => cases hl
  rename_i zv him
  obtain ⟨kt, et, te, ik, u1, u2, hte, hzv⟩ := intMap_inv hT him w
  split at hl
  case h_2 => cases hl
  rename_i es hes
  obtain ⟨ents, hE, hsrc⟩ := mapEs_sim (P := P) hr hx hes
  have hout : ∀ {a : AV} {u : Value} {b : Bool}, VR μ a u → VR μ (lkOut ok a b) (if ok = true then .tuple #[u, .bool b] else u) := by
    intro a u b ha
    cases ok with
    | true => exact VR.mk_tup (VRL.cons ha (VRL.cons (VR.mk_bool _) VRL.nil))
    | false => exact ha
  have hstep : ∀ (r : Option (Nat × AV)) , findA k es 0 = some r → ∃ rv, (Instr.findKey kt kv ents.toList).run P w = .ok rv w ∧ ((r = none ∧ rv = none) ∨ ∃ i a u, r = some (i, a) ∧ rv = some (i, u) ∧ VR μ a u) := by
    intro r hr'
    rcases findA_sim ik hk es ents.toList 0 r (by rw [hE.len]; simp) (fun j k v hj => by obtain ⟨e, he, h1⟩ := hE.rel j k v hj; exact ⟨e, by simpa using he, h1⟩) hr' with ⟨h1, h2⟩ | ⟨j, v, e, h1, h2, h3, h4, _⟩
    · exact ⟨_, findKey_now u2 h2, .inl ⟨h1, rfl⟩⟩
    · exact ⟨_, findKey_now u2 h4, .inr ⟨_, _, _, h1, rfl, h3⟩⟩
  split at hl
  · rename_i p hf
    cases hl
    obtain ⟨rv, hrun, hor⟩ := hstep _ hf
    rcases hor with ⟨h1, _⟩ | ⟨i, a, u, h1, rfl, h3⟩
    · cases h1
    cases h1
    refine ⟨_, ?_, hout h3⟩
    rcases hsrc with ⟨rfl, rfl⟩ | ⟨r, clock, rfl, hg⟩
    · simp only [Instr.lookup, Sem.run_bind, u1, Result.andThen_ok, Sem.run_pure, checkKey_int u2, hrun]
    · simp only [Instr.lookup, Sem.run_bind, u1, Result.andThen_ok, Sem.run_pure, checkKey_int u2, hrun, hg]
  · rename_i hf
    simp only [Option.map_eq_some_iff] at hl
    obtain ⟨z, hz, rfl⟩ := hl
    obtain ⟨rv, hrun, hor⟩ := hstep _ hf
    rcases hor with ⟨_, rfl⟩ | ⟨i, a, u, h1, _⟩
    rotate_left
    · cases h1
    obtain ⟨i, zz, hi, hzz, hv⟩ := hT.zv et te z hte (hzv.trans hz)
    have hzr : (zeroValue et).run P w = .ok zz w := by simp [zeroValue, typeInfo, hi, hzz]
    refine ⟨_, ?_, hout (hv μ)⟩
    rcases hsrc with ⟨rfl, rfl⟩ | ⟨r, clock, rfl, hg⟩
    · simp only [Instr.lookup, Sem.run_bind, u1, Result.andThen_ok, Sem.run_pure, checkKey_int u2, hrun, hzr]
    · simp only [Instr.lookup, Sem.run_bind, u1, Result.andThen_ok, Sem.run_pure, checkKey_int u2, hrun, hg, hzr]
  · cases hl
theorem sameA_bits {k k' : AV} {v v' : Value} {μ : Img} (h : VR μ k v) (h' : VR μ k' v') (hs : sameA k k' = some true) : Instr.sameBits 10000 v' v = true := by
  unfold sameA at hs
  split at hs
  · rename_i a b c d
    split at hs
    · rename_i hab
      rw [h.int_inv, h'.int_inv]
      simp at hs
      subst hs; subst hab
      simp [Instr.sameBits]
    · cases hs
  · cases hs
theorem mapUpd_sim {P : Program} {T : TT} (hT : TAgree P T) {B : BS P} {μ : Img} {h : AH} {w : World} (hr : HR B μ h w.heap) {t : TypeId} {m k v : AV} {mv kv vv : Value} {h' : AH} (hm : VR μ m mv) (hk : VR μ k kv) (hv : VR μ v vv) (hl : aMapUpd T t m k v h = some h') :
    ∃ w', (Instr.mapUpdate t mv kv vv).run P w = .ok () w' ∧ HR B μ h' w'.heap ∧ BelowS B w w' := by
  unfold aMapUpd at hl
  split at hl
  case h_2 => cases hl
  rename_i zv him
  obtain ⟨kt, et, te, ik, u1, u2, hte, hzv⟩ := intMap_inv hT him w
  split at hl
  case h_2 => cases hl
  rename_i b
  obtain ⟨cb, δ, N, hmu, rfl⟩ := hm.mp_inv
  split at hl
  case h_2 => cases hl
  rename_i es hb
  obtain ⟨_, cb', δ', N', ents, clock, g1, g2, g3, hE⟩ := hr.blk b _ hb
  rw [hmu] at g1; cases g1
  have hg : (getObj cb).run P w = .ok (.map ents clock) w := by simp [getObj, Sem.run, g2]
  have hset : ∀ o, (setObj cb o).run P w = .ok () { w with heap := w.heap.setIfInBounds cb o } := fun o => by simp [setObj, Sem.run, g2]
  have hlt : cb < w.heap.size := (Array.getElem?_eq_some_iff.1 g2).1
  have hfs := fun r hr' => findA_sim ik hk es ents.toList 0 r (by rw [hE.len]; simp) (fun j k v hj => by obtain ⟨e, he, h1⟩ := hE.rel j k v hj; exact ⟨e, by simpa using he, h1⟩) hr'
  split at hl
  · rename_i p hf
    cases hl
    rcases hfs _ hf with ⟨h1, _⟩ | ⟨j, v0, e, h1, h2, h3, h4, k', h5, h6⟩
    · cases h1
    cases h1
    rw [Nat.zero_add] at h4
    obtain ⟨e', he', r1, r2⟩ := hE.rel j k' v0 h5
    have hej : ents[j]? = some e := by simpa using h2
    rw [hej] at he'; cases he'
    have hbits := sameA_bits hk r1 h6
    refine ⟨{ w with heap := w.heap.setIfInBounds cb (.map (ents.modify j fun e => { e with key := kv, val := vv }) clock) }, ?_, ?_, below_set w cb _ g3⟩
    · have hkey : ((ents[j]?).map (·.key)).getD kv = e.key := by rw [hej]; rfl
      simp only [Instr.mapUpdate, Sem.run_bind, u1, Result.andThen_ok, hg, checkKey_int u2, findKey_now u2 h4, hkey, Instr.keyThatStays, hbits, if_true, Sem.run_pure, hset]
    · refine hr.write hb rfl hmu g3 ⟨cb, δ, N, ents.modify j (fun e => { e with key := kv, val := vv }), clock, hmu, by simp [hlt], g3, ⟨by simp [hE.len], fun i a c hi => ?_⟩⟩
      simp only [Nat.zero_add] at hi
      rw [List.getElem?_set] at hi
      by_cases hij : j = i
      · subst hij
        rw [if_pos rfl] at hi
        split at hi
        · cases hi
          exact ⟨{ e with key := kv, val := vv }, by rw [Array.getElem?_modify, if_pos rfl, hej]; rfl, hk, hv⟩
        · cases hi
      · rw [if_neg hij] at hi
        obtain ⟨e2, he2, r3⟩ := hE.rel i a c hi
        exact ⟨e2, by rw [Array.getElem?_modify, if_neg hij]; exact he2, r3⟩
  · rename_i hf
    cases hl
    rcases hfs _ hf with ⟨_, h2⟩ | ⟨j, v0, e, h1, _⟩
    rotate_left
    · cases h1
    refine ⟨{ w with heap := w.heap.setIfInBounds cb (.map (ents.push { key := kv, val := vv, born := clock }) (clock + 1)) }, ?_, ?_, below_set w cb _ g3⟩
    · simp only [Instr.mapUpdate, Sem.run_bind, u1, Result.andThen_ok, hg, checkKey_int u2, findKey_now u2 h2, hset]
    · refine hr.write hb rfl hmu g3 ⟨cb, δ, N, ents.push { key := kv, val := vv, born := clock }, clock + 1, hmu, by simp [hlt], g3, ⟨by simp [hE.len], fun i a c hi => ?_⟩⟩
      rcases Nat.lt_or_ge i es.length with hlt' | hge
      · rw [List.getElem?_append_left hlt'] at hi
        obtain ⟨e2, he2, r3⟩ := hE.rel i a c hi
        exact ⟨e2, by rw [Array.getElem?_push, if_neg (by rw [← hE.len]; omega)]; exact he2, r3⟩
      · rw [List.getElem?_append_right hge] at hi
        have h0 : i - es.length = 0 := by
          rcases Nat.eq_zero_or_pos (i - es.length) with h | h
          · exact h
          · rw [List.getElem?_eq_none (by simp; omega)] at hi; cases hi
        rw [h0] at hi
        cases hi
        exact ⟨_, by rw [Array.getElem?_push, if_pos (by rw [← hE.len]; omega)], hk, hv⟩
  · cases hl

theorem op_sim {P : Program} {T : TT} (hT : TAgree P T) {B : BS P} {C : Cf} (hC : CallOK P B C) {μ : Img} {e : Env} {a : Act} (he : ER μ e a) {h : AH} {w : World} (hr : HR B μ h w.heap)
    {o : Oper} {v : AV} {h' : AH} (hout : (outOf C T o e h).val h = some (v, h')) (ro : Option Nat) (Q : Exit → Act → World → Prop) :
    o.wpIn (WF ro) 0 P a w (fun a' w' => ∃ v', a' = a.put o.dst v' ∧ Grows B μ w v h' v' w') Q := by
  obtain ⟨dst, op, type, pos, after, guard⟩ := o
  have hout0 := hout
  unfold outOf at hout
  cases op <;> simp only [Out.val, Option.map_eq_some_iff, Prod.mk.injEq] at hout
  case move x => obtain ⟨_, hx, rfl, rfl⟩ := hout; cases hx; exact wp_value rfl ⟨_, rfl, .same (ev_sim he x) hr⟩
  case assign x => obtain ⟨_, hx, rfl, rfl⟩ := hout; cases hx; exact wp_value rfl ⟨_, rfl, .same (ev_sim he x) hr⟩
  case pick c x y =>
    obtain ⟨_, hx, rfl, rfl⟩ := hout
    obtain ⟨t, hc, hv⟩ := pick_sim hT (ev_sim he c) (ev_sim he x) (ev_sim he y) hx
    refine wp_value (v := if t then a.eval x else a.eval y) (w' := w) ?_ ⟨_, rfl, .same hv hr⟩
    simp [execOp, hc, asBool]
  case alloc t =>
    obtain ⟨v', w', hrun, hg⟩ := alloc_sim hT w hr hout
    exact wp_value (v := v') (w' := w') (by simp [execOp, hrun]) ⟨_, rfl, hg⟩
  case box t x =>
    obtain ⟨v', w', hrun, hg⟩ := box_sim hT w hr (t := t) (ev_sim he x) hout
    exact wp_value (v := v') (w' := w') (by simp [execOp, hrun]) ⟨_, rfl, hg⟩
  case build t ps =>
    obtain ⟨_, hx, rfl, rfl⟩ := hout
    obtain ⟨v', hrun, hv⟩ := build_sim hT w (parts_sim hT he ps) hx
    exact wp_value (v := v') (w' := w) (by simp [execOp, hrun]) ⟨_, rfl, .same hv hr⟩
  case buildSlice t n ps =>
    obtain ⟨v', w', hrun, hg⟩ := buildSlice_sim hT w hr (parts_sim hT he ps) hout
    exact wp_value (v := v') (w' := w') (by simp [execOp, hrun]) ⟨_, rfl, hg⟩
  case load t x =>
    obtain ⟨_, hx, rfl, rfl⟩ := hout
    obtain ⟨v', hrun, hv⟩ := load_sim hT hr (ev_sim he x) hx
    exact wp_value (v := v') (w' := w) (by simp [execOp, hrun]) ⟨_, rfl, .same hv hr⟩
  case store t x y =>
    obtain ⟨_, hx, rfl, rfl⟩ := hout
    obtain ⟨w', hrun, hr', hB⟩ := store_sim hT w hr (ev_sim he x) (ev_sim he y) hx
    exact wp_skp (w' := w') (by simp [execOp, hrun]) ⟨_, rfl, μ, Img.le.refl μ, VR.mk_bad _, hr', hB⟩
  case nilCheck x =>
    obtain ⟨_, hx, rfl, rfl⟩ := hout
    obtain ⟨⟨ad, hp⟩, hv⟩ := nil_sim hT (ev_sim he x) hx
    refine wp_value (v := a.eval x) (w' := w) ?_ ⟨_, rfl, .same hv hr⟩
    simp [execOp, hp]
  case binOp op t x y yt =>
    obtain ⟨_, hx, rfl, rfl⟩ := hout
    obtain ⟨v', hrun, hv⟩ := bin_sim hT w hr (xo := x) (yo := y) (ev_sim he x) (ev_sim he y) hx
    refine wp_value (v := v') (w' := w) ?_ ⟨_, rfl, .same hv hr⟩
    simp only [execOp, Sem.run_bind, hrun, Result.andThen_ok, Sem.run_pure]
  case unOp op t x =>
    obtain ⟨_, hx, rfl, rfl⟩ := hout
    obtain ⟨v', hrun, hv⟩ := un_sim hT w (ev_sim he x) hx
    exact wp_value (v := v') (w' := w) (by simp [execOp, hrun]) ⟨_, rfl, .same hv hr⟩
  case convert s d x =>
    obtain ⟨v', w', hrun, hg⟩ := convert_sim hT w hr (ev_sim he x) hout
    exact wp_value (v := v') (w' := w') (by simp [execOp, hrun]) ⟨_, rfl, hg⟩
  case makeFunc fn first caps =>
    cases fn with
    | func f =>
      have hx : some (AV.fn f (first.toList.map (ev e)) (caps.toList.map (ev e)), h) = some (v, h') := hout
      cases hx
      refine wp_value (v := .func (.func f) (first.map a.eval) (caps.map a.eval)) (w' := w) (by simp [execOp, Instr.makeFunc]) ⟨_, rfl, .same ?_ hr⟩
      rw [VR]
      exact ⟨_, _, rfl, by simpa using evs_sim he first.toList, by simpa using evs_sim he caps.toList⟩
    | _ => exact absurd hout (by simp)
  case makeSlice t l c =>
    obtain ⟨v', w', hrun, hg⟩ := makeSlice_sim hT w hr (ev_sim he l) (ev_sim he c) hout
    exact wp_value (v := v') (w' := w') (by simp [execOp, hrun]) ⟨_, rfl, hg⟩
  case slice t x lo hi mx =>
    obtain ⟨_, hx, rfl, rfl⟩ := hout
    obtain ⟨v', hrun, hv⟩ := slice_sim hT w (ev_sim he x) (ovr_sim hT he lo) (ovr_sim hT he hi) (ovr_sim hT he mx) hx
    exact wp_value (v := v') (w' := w) (by simp [execOp, hrun]) ⟨_, rfl, .same hv hr⟩
  case fieldAddr t x f =>
    obtain ⟨_, hx, rfl, rfl⟩ := hout
    obtain ⟨v', hrun, hv⟩ := fieldAddr_sim hT w (ev_sim he x) hx
    exact wp_value (v := v') (w' := w) (by simp [execOp, hrun]) ⟨_, rfl, .same hv hr⟩
  case field t x f =>
    obtain ⟨_, hx, rfl, rfl⟩ := hout
    obtain ⟨v', hrun, hv⟩ := field_sim hT w (ev_sim he x) hx
    exact wp_value (v := v') (w' := w) (by simp [execOp, hrun]) ⟨_, rfl, .same hv hr⟩
  case indexAddr t x i =>
    obtain ⟨_, hx, rfl, rfl⟩ := hout
    obtain ⟨v', hrun, hv⟩ := indexAddr_sim hT w (ev_sim he x) (ev_sim he i) hx
    exact wp_value (v := v') (w' := w) (by simp [execOp, hrun]) ⟨_, rfl, .same hv hr⟩
  case index t x i =>
    obtain ⟨_, hx, rfl, rfl⟩ := hout
    obtain ⟨v', hrun, hv⟩ := index_sim hT w (ev_sim he x) (ev_sim he i) hx
    exact wp_value (v := v') (w' := w) (by simp [execOp, hrun]) ⟨_, rfl, .same hv hr⟩
  case extract x i =>
    obtain ⟨_, hx, rfl, rfl⟩ := hout
    obtain ⟨v', hrun, hv⟩ := extract_sim hT w (ev_sim he x) hx
    exact wp_value (v := v') (w' := w) (by simp [execOp, hrun]) ⟨_, rfl, .same hv hr⟩
  case range t x =>
    obtain ⟨v', w', hrun, hg⟩ := range_sim' hT w hr (ev_sim he x) hout
    exact wp_value (v := v') (w' := w') (by simp [execOp, hrun]) ⟨_, rfl, hg⟩
  case lookup t x k ok =>
    obtain ⟨_, hx, rfl, rfl⟩ := hout
    obtain ⟨v', hrun, hv⟩ := lookup_sim hT hr (ev_sim he x) (ev_sim he k) hx
    exact wp_value (v := v') (w' := w) (by simp [execOp, hrun]) ⟨_, rfl, .same hv hr⟩
  case mapUpdate t m k x =>
    obtain ⟨_, hx, rfl, rfl⟩ := hout
    obtain ⟨w', hrun, hr', hB⟩ := mapUpd_sim hT hr (ev_sim he m) (ev_sim he k) (ev_sim he x) hx
    exact wp_skp (w' := w') (by simp [execOp, hrun]) ⟨_, rfl, μ, Img.le.refl μ, VR.mk_bad _, hr', hB⟩
  case makeMap t r =>
    have hgo : (Instr.makeMap t (r.map a.eval)).run P w = .ok (.map (some w.heap.size)) { w with heap := w.heap.push (.map #[] 0) } ∧ some (AV.mp h.next, h.alloc (.map [])) = some (v, h') := by
      cases r with
      | none => exact ⟨by simp [Instr.makeMap, newObj, Sem.run], hout⟩
      | some r =>
        simp only [Option.map_some] at hout ⊢
        unfold aMakeMap at hout
        split at hout
        · rename_i hr2; cases hr2
        · rename_i k n hr2
          have hev := ev_sim he r
          rw [Option.some.inj hr2] at hev
          split at hout
          · rename_i zv him
            obtain ⟨kt, et, te, ik, u1, _⟩ := intMap_inv hT him w
            refine ⟨?_, hout⟩
            rw [hev.int_inv]
            simp [Instr.makeMap, u1, asInt, asIntOf, newObj, Sem.run]
          · cases hout
        · cases hout
    obtain ⟨hrun, hout⟩ := hgo
    simp only [Option.some.injEq, Prod.mk.injEq] at hout
    obtain ⟨rfl, rfl⟩ := hout
    refine wp_value (v := .map (some w.heap.size)) (w' := { w with heap := w.heap.push (.map #[] 0) }) (by simp [execOp, hrun]) ⟨_, rfl, μ.upd h.next (w.heap.size, 0, 0), Img.le_upd hr.fresh, ?_, ?_, below_push w _ hr.base⟩
    · rw [VR]; exact ⟨w.heap.size, 0, 0, upd_self _ _ (w.heap.size, 0, 0), rfl⟩
    · exact hr.alloc (.map []) _ 0 0 ⟨w.heap.size, 0, 0, #[], 0, upd_self _ _ _, by simp, fun hb => absurd (hr.base _ hb) (Nat.lt_irrefl _), ⟨rfl, fun j k v hj => by simp at hj⟩⟩
  case next x s =>
    obtain ⟨v', w', hrun, hg⟩ := next_sim (P := P) w hr (ev_sim he x) hout type
    exact wp_value (v := v') (w' := w') (by simp [execOp, hrun]) ⟨_, rfl, hg⟩
  case call c =>
    obtain ⟨callee, args, argTypes⟩ := c
    cases callee with
    | value f =>
      simp only at hout
      unfold callV at hout
      split at hout
      · rename_i g first caps hf
        have hfv := ev_sim he f
        rw [hf] at hfv
        obtain ⟨fs, cs, hfe, h1, h2⟩ := hfv.fn_inv
        cases hgY : Nat.beq g YLD with
        | true => simp [hgY] at hout
        | false =>
        rw [hgY] at hout
        simp only [cond_false] at hout
        obtain ⟨henter, hcall⟩ := (hC _ _ _ _ _ hout).1 hgY
        have hargs := (h1.append (evs_sim he args.toList)).append h2
        have hcalls := hcall μ w _ hargs hr
        have harr : (fs.toList ++ args.toList.map a.eval ++ cs.toList).toArray = fs ++ args.map a.eval ++ cs := by apply Array.ext'; simp
        rw [harr] at hcalls
        have hrun : (execOp a.eval ⟨dst, .call ⟨.value f, args, argTypes⟩, type, pos, after, guard⟩).run P w = .ok (.enter g (fs ++ args.map a.eval ++ cs)) w := by
          simp [execOp, resolve, hfe, Deferred.ofValue, invoke, henter]
        refine wp_enter hrun hcalls ?_
        rintro e w' ⟨v', rfl, hg⟩
        exact ⟨v', rfl, v', rfl, hg⟩
      · rename_i l hf
        have hfv := ev_sim he f
        rw [hf] at hfv
        obtain ⟨cb, δ, N, hm, hfe⟩ := hfv.yld_inv
        obtain ⟨fn, tmps, asg, bdy, hy, hround⟩ := (hC _ _ _ _ _ hout).2 (by decide +kernel) l _ rfl μ w _ cb δ N (evs_sim he args.toList) hr hm
        have harr : (args.toList.map a.eval).toArray = args.map a.eval := by apply Array.ext'; simp
        rw [harr] at hy
        have hrun : (execOp a.eval ⟨dst, .call ⟨.value f, args, argTypes⟩, type, pos, after, guard⟩).run P w = .ok (.round cb fn tmps asg bdy) w := by
          simp [execOp, resolve, hfe, Deferred.ofValue, invoke, hy]
        refine wp_round hrun hround ?_
        rintro e w' ⟨v', rfl, hg⟩
        exact ⟨v', rfl, v', rfl, hg⟩
      · cases hout
    | invoke r m => simp [Out.val] at hout
    | builtin b =>
      clear hout
      simp only [outOf] at hout0
      split at hout0 <;> simp only [Out.val, Option.map_eq_some_iff, Prod.mk.injEq] at hout0
      · rename_i x t hx ht
        obtain ⟨_, hx', rfl, rfl⟩ := hout0
        obtain ⟨v', hrun, hv⟩ := len_sim hT w hr (ev_sim he x) hx' type
        have e1 : args = #[x] := by apply Array.ext'; simpa using hx
        have e2 : argTypes = #[t] := by apply Array.ext'; simpa using ht
        subst e1; subst e2
        exact wp_value (v := v') (w' := w) (by simp [execOp, resolve, invoke, builtin, hrun]) ⟨_, rfl, .same hv hr⟩
      · rename_i s x t xt hx ht
        have e1 : args = #[s, x] := by apply Array.ext'; simpa using hx
        have e2 : argTypes = #[t, xt] := by apply Array.ext'; simpa using ht
        subst e1; subst e2
        obtain ⟨v', w', hrun, hg⟩ := append_sim hT w hr (ev_sim he s) (ev_sim he x) hout0 type
        exact wp_value (v := v') (w' := w') (by simp [execOp, resolve, invoke, builtin, hrun]) ⟨_, rfl, hg⟩
      · rename_i d s t ts hx ht
        have e1 : args = #[d, s] := by apply Array.ext'; simpa using hx
        subst e1
        obtain ⟨v', w', hrun, hg⟩ := copy_sim hT w hr (ev_sim he d) (ev_sim he s) hout0 argTypes (by rw [← Array.getElem?_toList, ht]; rfl) type
        exact wp_value (v := v') (w' := w') (by simp [execOp, resolve, invoke, builtin, hrun]) ⟨_, rfl, hg⟩
      · rename_i x t hx ht
        obtain ⟨_, hx', rfl, rfl⟩ := hout0
        have e1 : args = #[x] := by apply Array.ext'; simpa using hx
        have e2 : argTypes = #[t] := by apply Array.ext'; simpa using ht
        subst e1; subst e2
        obtain ⟨w', hrun, hr', hB⟩ := clear_sim hT w hr (ev_sim he x) hx' type
        exact wp_value (v := .tuple #[]) (w' := w') (by simp [execOp, resolve, invoke, builtin, hrun]) ⟨_, rfl, μ, Img.le.refl μ, VR.mk_bad _, hr', hB⟩
      · rename_i x y hx
        obtain ⟨_, hx', rfl, rfl⟩ := hout0
        have e1 : args = #[x, y] := by apply Array.ext'; simpa using hx
        subst e1
        obtain ⟨v', hrun, hv⟩ := min_sim (P := P) w (ev_sim he x) (ev_sim he y) hx' argTypes type
        exact wp_value (v := v') (w' := w) (by simp [execOp, resolve, invoke, builtin, hrun]) ⟨_, rfl, .same hv hr⟩
      · rename_i x y hx
        obtain ⟨_, hx', rfl, rfl⟩ := hout0
        have e1 : args = #[x, y] := by apply Array.ext'; simpa using hx
        subst e1
        obtain ⟨v', hrun, hv⟩ := max_sim (P := P) w (ev_sim he x) (ev_sim he y) hx' argTypes type
        exact wp_value (v := v') (w' := w) (by simp [execOp, resolve, invoke, builtin, hrun]) ⟨_, rfl, .same hv hr⟩
      · obtain ⟨_, hx', _⟩ := hout0; cases hx'
  all_goals (obtain ⟨_, hx, _⟩ := hout; cases hx)


/-- What may be made at any time. -/
theorem mk_sim {P : Program} {T : TT} (hT : TAgree P T) {μ : Img} {e : Env} {a : Act} (he : ER μ e a) (w : World) {o : Oper} {id : Nat} {v : AV} {cs : List AV} (hmk : mkOf T o e id = some (v, cs)) :
    ∃ v' arr el, (execOp a.eval o).run P w = .ok (.value v') { w with heap := w.heap.push (.cells arr el (0, 0)) } ∧ CellsR μ cs arr 0 ∧ ∀ μ' : Img, μ' id = some (w.heap.size, 0, arr.size) → VR μ' v v' := by
  obtain ⟨dst, op, type, pos, after, guard⟩ := o
  unfold mkOf at hmk
  split at hmk
  · rename_i t hop
    simp only at hop; subst hop
    simp only [Option.map_eq_some_iff, Prod.mk.injEq] at hmk
    obtain ⟨ti, ht, rfl, rfl⟩ := hmk
    obtain ⟨z, hz, hzs, hzr⟩ := run_zero hT ht w
    refine ⟨.pointer (some ⟨w.heap.size, 0, none⟩), z.cells, t, by simp [execOp, Instr.alloc, hz, newVar, newRow], by simpa using CellsR.of_prefix (hzr μ) [], fun μ' h => VR.mk_ptr h rfl⟩
  · rename_i t x hop
    simp only at hop; subst hop
    simp only [Option.map_eq_some_iff, Prod.mk.injEq] at hmk
    obtain ⟨cs, hc, rfl, rfl⟩ := hmk
    have hv := (ev_sim he x).cells hc
    exact ⟨.pointer (some ⟨w.heap.size, 0, none⟩), (a.eval x).cells, t, by simp [execOp, Instr.box, newVar, newRow], by simpa using CellsR.of_prefix hv [], fun μ' h => VR.mk_ptr h rfl⟩
  · rename_i t len ps hop
    simp only at hop; subst hop
    split at hmk
    · rename_i v0 h0 hb
      obtain ⟨arr', el, cs0, sz, rfl, rfl, hrun, hvr, hlen⟩ := buildSlice_run hT w (parts_sim hT he ps) hb
      rw [AH.get_alloc] at hmk
      simp only [if_true, Option.some.injEq, Prod.mk.injEq] at hmk
      obtain ⟨rfl, rfl⟩ := hmk
      refine ⟨.slice (some ⟨w.heap.size, 0, none⟩) len len, arr', el, by simp [execOp, hrun], by simpa using CellsR.of_prefix hvr [], fun μ' h => ?_⟩
      rw [VR]
      exact ⟨w.heap.size, 0, arr'.size, _, len, h, rfl, .inr ⟨by simp, by omega⟩, Nat.le_refl _, Nat.le_refl _, fun _ => rfl⟩
    · cases hmk
  · cases hmk

end Go.AM
