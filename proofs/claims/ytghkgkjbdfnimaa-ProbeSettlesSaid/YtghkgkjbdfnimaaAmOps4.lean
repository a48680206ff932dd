/- Operations that make or write memory. Own work. -/
import Derived.Test.YtghkgkjbdfnimaaAmOps3
import Derived.Room.Entries
namespace Go.AM
open Go Go.RowKit
set_option linter.unusedVariables false
set_option linter.unusedSimpArgs false
set_option linter.unusedSectionVars false

/-- What an operation leaves: a value, memory, where all lies. -/
def Grows {P : Program} (B : BS P) (μ : Img) (w : World) (v : AV) (h' : AH) (v' : Value) (w' : World) : Prop :=
  ∃ μ', μ.le μ' ∧ VR μ' v v' ∧ HR B μ' h' w'.heap ∧ BelowS B w w'

theorem below_push {B : Nat → Prop} (w : World) (o : Obj) (hb : ∀ k, B k → k < w.heap.size) : BelowS B w { w with heap := w.heap.push o } :=
  ⟨rfl, rfl, rfl, by simp, fun k hk => by
    have : k < w.heap.size := hb k hk
    show (w.heap.push o)[k]? = _
    rw [Array.getElem?_push_lt this]; simp [this]⟩

theorem below_drewpush {B : Nat → Prop} (w : World) (o : Obj) (hb : ∀ k, B k → k < w.heap.size) : BelowS B w (w.drew.alloc o) :=
  ⟨rfl, rfl, rfl, by show w.heap.size ≤ (w.heap.push o).size; simp, fun k hk => by
    have : k < w.heap.size := hb k hk
    show (w.heap.push o)[k]? = _
    rw [Array.getElem?_push_lt this]; simp [this]⟩

theorem below_set {B : Nat → Prop} (w : World) (cb : Nat) (o : Obj) (hb : ¬ B cb) : BelowS B w { w with heap := w.heap.setIfInBounds cb o } :=
  ⟨rfl, rfl, rfl, by simp, fun k hk => Array.getElem?_setIfInBounds_ne (fun e => hb (by rw [e]; exact hk))⟩

theorem CellsR.of_prefix {μ : Img} {cs : List AV} {vs : List Value} (h : VRL μ cs vs) (rest : List Value) : CellsR μ cs (vs ++ rest).toArray 0 := by
  have hl := h.length
  refine ⟨by simp; omega, fun j a hj => ?_⟩
  obtain ⟨v, hv, hr⟩ := h.get hj
  have hlt : j < vs.length := (List.getElem?_eq_some_iff.1 hv).1
  exact ⟨v, by simp [List.getElem?_append_left hlt, hv], hr⟩

/-- A new block. -/
theorem new_sim {P : Program} {B : BS P} {μ : Img} {h : AH} {w : World} (hr : HR B μ h w.heap) {cs : List AV} {k : BK} {arr : Array Value} {el : TypeId} {fz : Nat × Nat}
    (hc : CellsR μ cs arr 0) (hk : k ≠ .ro) (hz : ∀ off, off < arr.size → ¬ (fz.1 ≤ off ∧ off < fz.2)) (ho : k = .own → fz = (0, 0)) :
    HR B (μ.upd h.next (w.heap.size, 0, arr.size)) (h.alloc (.cells cs k)) (w.heap.push (.cells arr el fz)) := by
  refine hr.alloc _ _ _ _ ⟨w.heap.size, 0, arr.size, arr, el, fz, by simp [Img.upd], by simp, hc.mono (Img.le_upd hr.fresh), fun e => absurd e hk, fun _ => ⟨fun hb => absurd (hr.base _ hb) (Nat.lt_irrefl _), rfl, hz, ho⟩⟩

theorem upd_self (μ : Img) (b : Nat) (x : Nat × Nat × Nat) : (μ.upd b x) b = some x := by simp [Img.upd]

section
variable {P : Program} {T : TT} (hT : TAgree P T) {μ : Img} (w : World) {B : BS P} {h : AH} (hr : HR B μ h w.heap)
include hT hr

theorem alloc_sim {t : TypeId} {v : AV} {h' : AH} (hl : aAlloc T t h = some (v, h')) :
    ∃ v' w', (Instr.alloc t true (.tuple #[])).run P w = .ok v' w' ∧ Grows B μ w v h' v' w' := by
  unfold aAlloc at hl
  split at hl
  · rename_i ti ht
    cases hl
    obtain ⟨z, hz, hzs, hzr⟩ := run_zero hT ht w
    refine ⟨.pointer (some ⟨w.heap.size, 0, none⟩), { w with heap := w.heap.push (.cells z.cells t) }, by simp [Instr.alloc, hz, newVar, newRow], _, Img.le_upd hr.fresh, VR.mk_ptr (upd_self _ _ _) rfl,
      new_sim (k := .own) (fz := (0, 0)) hr (by simpa using CellsR.of_prefix (hzr μ) []) (by simp) (by simp) (fun _ => rfl), below_push w _ hr.base⟩
  · cases hl

theorem box_sim {t : TypeId} {x v : AV} {xv : Value} {h' : AH} (hx : VR μ x xv) (hl : aBox x h = some (v, h')) :
    ∃ v' w', (Instr.box t xv).run P w = .ok v' w' ∧ Grows B μ w v h' v' w' := by
  unfold aBox at hl
  split at hl
  · rename_i cs hc
    cases hl
    have hv := hx.cells hc
    refine ⟨.pointer (some ⟨w.heap.size, 0, none⟩), { w with heap := w.heap.push (.cells xv.cells t) }, by simp [Instr.box, newVar, newRow], _, Img.le_upd hr.fresh, VR.mk_ptr (upd_self _ _ _) rfl,
      new_sim (k := .own) (fz := (0, 0)) hr (by simpa using CellsR.of_prefix hv []) (by simp) (by simp) (fun _ => rfl), below_push w _ hr.base⟩
  · cases hl

omit hT hr in
theorem repl_length (zero : List AV) (n : Nat) : (repl zero n).length = n * zero.length := by
  induction n with
  | zero => simp [repl]
  | succ n ih => simp [repl, ih, Nat.succ_mul, Nat.add_comm]

omit hT hr in
theorem range_zero (zero : Array Value) : ∀ n : Nat, ((Array.range (n * zero.size)).map fun i => zero[i % zero.size]!).toList = (List.replicate n zero.toList).flatten := by
  intro n
  by_cases hz : zero.size = 0
  · have : zero = #[] := Array.size_eq_zero_iff.1 hz
    subst this; simp
  · induction n with
    | zero => simp
    | succ n ih =>
      rw [List.replicate_succ', List.flatten_append, ← ih]
      apply List.ext_getElem?
      intro i
      simp only [Array.toList_map, Array.toList_range, List.getElem?_map, List.flatten_cons, List.flatten_nil, List.append_nil]
      by_cases hi : i < n * zero.size
      · rw [List.getElem?_append_left (by simpa using hi)]
        simp only [List.getElem?_map]
        rw [List.getElem?_range (by rw [Nat.succ_mul]; omega), List.getElem?_range hi]
      · rw [List.getElem?_append_right (by simpa using hi)]
        simp only [List.length_map, List.length_range]
        by_cases hi2 : i < (n + 1) * zero.size
        · rw [List.getElem?_range hi2]
          have hlt : i - n * zero.size < zero.size := by rw [Nat.succ_mul] at hi2; omega
          have hmod : i % zero.size = i - n * zero.size := by
            have : i = (i - n * zero.size) + n * zero.size := by omega
            conv => lhs; rw [this]
            rw [Nat.add_mul_mod_self_right, Nat.mod_eq_of_lt hlt]
          simp [hmod, hlt]
        · have h1 : (List.range ((n + 1) * zero.size))[i]? = none := by simp; omega
          have h2 : zero.toList[i - n * zero.size]? = none := by rw [Nat.succ_mul] at hi2; simp; omega
          rw [h1, h2]; rfl

omit hT hr in
theorem repl_sim {zero : List AV} {zv : Array Value} (hz : VRL μ zero zv.toList) (n : Nat) :
    VRL μ (repl zero n) ((Array.range (n * zv.size)).map fun i => zv[i % zv.size]!).toList := by
  rw [range_zero]
  induction n with
  | zero => exact VRL.nil
  | succ n ih => rw [List.replicate_succ, List.flatten_cons]; exact hz.append ih

omit hr in
theorem buildSlice_run {t : TypeId} {len : Nat} {l : List (Nat × AV)} {lv : Array (Nat × Value)} {v : AV} {h' : AH}
    (hps : ∃ qs : List (Nat × AV × Value), l = qs.map (fun p => (p.1, p.2.1)) ∧ lv.toList = qs.map (fun p => (p.1, p.2.2)) ∧ ∀ p ∈ qs, VR μ p.2.1 p.2.2)
    (hl : aBuildSlice T t len l h = some (v, h')) : ∃ (arr' : Array Value) (e : TypeId) (cs : List AV) (sz : Nat), v = .sl h.next 0 len len sz true ∧ h' = h.alloc (.cells cs .own) ∧
      (Instr.buildSlice t len lv).run P w = .ok (.slice (some ⟨w.heap.size, 0, none⟩) len len) { w with heap := w.heap.push (.cells arr' e) } ∧ VRL μ cs arr'.toList ∧ len * sz ≤ arr'.size := by
  unfold aBuildSlice at hl
  split at hl
  · rename_i ti ht
    have hu := run_und hT ht w
    split at hl
    · rename_i e hd
      split at hl
      · rename_i te hte
        obtain ⟨z, hz, hzs, hzr⟩ := run_zero hT hte w
        split at hl
        · rename_i hlim
          split at hl
          · rename_i cs hf
            cases hl
            obtain ⟨arr', hfill, hvr⟩ := fill_sim (μ := μ) (place := fun i => some (i * te.size, te.size)) hps (repl_sim (hzr μ) len) hf
            refine ⟨arr', e, cs, te.size, rfl, rfl, ?_, hvr, ?_⟩
            · have hlim' : ¬ 2 ^ 24 < len * te.size := by omega
              simp only [Instr.buildSlice, Sem.run_bind, hu, hd, Result.andThen_ok, run_sz hT hte]
              rw [if_neg hlim']
              have hz' : (Array.range (len * te.size)).map (fun i => z.cells[i % z.cells.size]!) = (Array.range (len * z.cells.size)).map (fun i => z.cells[i % z.cells.size]!) := by rw [hzs]
              by_cases h0 : len * te.size = 0
              · rw [if_pos h0]
                have e0 : (Array.range (len * te.size)).map (fun i => (#[] : Array Value)[i % (#[] : Array Value).size]!) = (Array.range (len * z.cells.size)).map (fun i => z.cells[i % z.cells.size]!) := by
                  rw [hzs, h0]; simp
                simp only [Sem.run_bind, Sem.run_pure, Result.andThen_ok]
                rw [e0, hfill]
                simp [newRow]
              · rw [if_neg h0]
                simp only [Sem.run_bind, Sem.run_pure, Result.andThen_ok, hz]
                rw [hz', hfill]
                simp [newRow]
            · have h1 := hvr.length
              have : cs.length = len * te.size := by
                have := (VRL.length (repl_sim (hzr μ) len))
                have hfl : ∀ (l : List (Nat × AV)) (c c' : List AV), fillA (fun i => some (i * te.size, te.size)) c l = some c' → c'.length = c.length := by
                  intro l
                  induction l with
                  | nil => intro c c' hc; simp [fillA] at hc; rw [hc]
                  | cons p l ih =>
                    intro c c' hc
                    obtain ⟨i, a⟩ := p
                    simp only [fillA] at hc
                    split at hc
                    · split at hc
                      · rename_i hcond
                        rw [ih _ _ hc]
                        simp [AH.splice]
                        omega
                      · cases hc
                    · cases hc
                rw [hfl _ _ _ hf, repl_length, (hzr μ).length]
                simp [hzs]
              simp at h1
              omega
          · cases hl
        · cases hl
      · cases hl
    · cases hl
  · cases hl

theorem buildSlice_sim {t : TypeId} {len : Nat} {l : List (Nat × AV)} {lv : Array (Nat × Value)} {v : AV} {h' : AH}
    (hps : ∃ qs : List (Nat × AV × Value), l = qs.map (fun p => (p.1, p.2.1)) ∧ lv.toList = qs.map (fun p => (p.1, p.2.2)) ∧ ∀ p ∈ qs, VR μ p.2.1 p.2.2)
    (hl : aBuildSlice T t len l h = some (v, h')) : ∃ v' w', (Instr.buildSlice t len lv).run P w = .ok v' w' ∧ Grows B μ w v h' v' w' := by
  obtain ⟨arr', e, cs, sz, rfl, rfl, hrun, hvr, hlen⟩ := buildSlice_run hT w hps hl
  refine ⟨_, _, hrun, _, Img.le_upd hr.fresh, ?_, new_sim (k := .own) (fz := (0, 0)) hr (by simpa using CellsR.of_prefix hvr []) (by simp) (by simp) (fun _ => rfl), below_push w _ hr.base⟩
  rw [VR]
  exact ⟨w.heap.size, 0, arr'.size, _, len, upd_self _ _ _, rfl, .inr ⟨by simp, by omega⟩, Nat.le_refl _, Nat.le_refl _, fun _ => rfl⟩

end
end Go.AM
