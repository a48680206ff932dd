/- The abstract machine's tables, out of a loaded program. Own work. -/
import Derived.Test.YtghkgkjbdfnimaaAmProg
namespace Go.AM
open Go Go.RowKit
set_option linter.unusedVariables false
set_option linter.unusedSimpArgs false
set_option linter.unusedSectionVars false

def placesOf (P : Program) : List Field → Option (List (Nat × Nat × Bool))
  | [] => some []
  | f :: fs => match P.info? f.type, P.underlying f.type with
    | some ft, some d => (placesOf P fs).map ((f.offset, ft.size, isRow d) :: ·)
    | _, _ => none

def fieldsD : TypeDesc → List Field
  | .struct fs => fs.toList
  | _ => []

def eqkOf (P : Program) (t : TypeId) (d : TypeDesc) : List SK :=
  match isRow d with
  | false => []
  | true => match P.eqGuardType P.depth t with
    | true => []
    | false => skOf P 4 t

/-- The zero value of a type whose values are no rows. -/
def zvOf : Value → Option AV
  | .bool b => some (.bool b)
  | .int k n => some (.int k n)
  | .string s => some (.str s.data.toList)
  | .pointer none => some .nilp
  | .slice none 0 0 => some .nils
  | .map none => some .nilm
  | _ => none
theorem zvOf_sim {v : Value} {a : AV} (h : zvOf v = some a) (μ : Img) : VR μ a v := by
  unfold zvOf at h
  split at h <;> first | (cases h; done) | (cases h; simp [VR])

def tiOf (P : Program) : TT := fun t =>
  match P.underlying t, P.info? t with
  | some d, some i => match i.zero, placesOf P (fieldsD d) with
    | some z, some ps => match Nat.beq z.cells.size i.size with
      | true => some { desc := d, size := i.size, bytes := i.bytes, zero := z.cells.toList.map ofScalar, agg := isRow d, places := ps, eqk := eqkOf P t d, zv := zvOf z }
      | false => none
    | _, _ => none
  | _, _ => none

theorem placesOf_get {P : Program} : ∀ {fs : List Field} {ps}, placesOf P fs = some ps → ps.length = fs.length ∧ ∀ (i : Nat) (f : Field), fs[i]? = some f → ∃ ft d, P.info? f.type = some ft ∧ P.underlying f.type = some d ∧ ps[i]? = some (f.offset, ft.size, isRow d)
  | [], ps, h => by simp [placesOf] at h; subst h; simp
  | f :: fs, ps, h => by
    simp only [placesOf] at h
    split at h
    · rename_i ft d hf hd
      simp only [Option.map_eq_some_iff] at h
      obtain ⟨ps', h', rfl⟩ := h
      obtain ⟨h1, h2⟩ := placesOf_get h'
      refine ⟨by simp [h1], fun i g hg => ?_⟩
      cases i with
      | zero => simp at hg; subst hg; exact ⟨ft, d, hf, hd, by simp⟩
      | succ i => simpa using h2 i g (by simpa using hg)
    · cases h

theorem ofScalar_zero (μ : Img) (v : Value) : VR μ (ofScalar v) v := by
  unfold ofScalar
  split <;> simp [VR]

theorem tiOf_spec {P : Program} {t : TypeId} {ti : TI} (h : tiOf P t = some ti) : ∃ d i z ps, P.underlying t = some d ∧ P.info? t = some i ∧ i.zero = some z ∧ placesOf P (fieldsD d) = some ps ∧ z.cells.size = i.size ∧
    ti = { desc := d, size := i.size, bytes := i.bytes, zero := z.cells.toList.map ofScalar, agg := isRow d, places := ps, eqk := eqkOf P t d, zv := zvOf z } := by
  unfold tiOf at h
  cases hd : P.underlying t with
  | none => simp [hd] at h
  | some d =>
    cases hi : P.info? t with
    | none => simp [hd, hi] at h
    | some i =>
      cases hz : i.zero with
      | none => simp [hd, hi, hz] at h
      | some z =>
        cases hp : placesOf P (fieldsD d) with
        | none => simp [hd, hi, hz, hp] at h
        | some ps =>
          simp only [hd, hi, hz, hp] at h
          cases hb : Nat.beq z.cells.size i.size with
          | false => simp [hb] at h
          | true =>
            simp only [hb, Option.some.injEq] at h
            exact ⟨d, i, z, ps, rfl, rfl, hz, hp, Nat.eq_of_beq_eq_true hb, h.symm⟩

theorem tiOf_agree (P : Program) : TAgree P (tiOf P) where
  und t ti h := by obtain ⟨d, i, z, ps, h1, h2, h3, h4, h5, rfl⟩ := tiOf_spec h; exact h1
  info t ti h := by
    obtain ⟨d, i, z, ps, h1, h2, h3, h4, h5, rfl⟩ := tiOf_spec h
    refine ⟨i, z, h2, rfl, rfl, h3, h5, fun μ => ?_⟩
    have := VRL.map (μ := μ) (f := ofScalar) (g := id) (l := z.cells.toList) (fun x _ => ofScalar_zero μ x)
    simpa using this
  agg t ti h := by obtain ⟨d, i, z, ps, h1, h2, h3, h4, h5, rfl⟩ := tiOf_spec h; rfl
  plen t ti fs h hs := by
    obtain ⟨d, i, z, ps, h1, h2, h3, h4, h5, rfl⟩ := tiOf_spec h
    simp only at hs; subst hs
    simpa [fieldsD] using (placesOf_get h4).1
  pstr t ti h hs := by
    obtain ⟨d, i, z, ps, h1, h2, h3, h4, h5, rfl⟩ := tiOf_spec h
    simp only at hs ⊢
    cases d <;> first | exact ⟨_, rfl⟩ | (simp [fieldsD, placesOf] at h4; exact absurd h4.symm (by simpa using hs))
  place t ti fs i f h hs hf := by
    obtain ⟨d, i, z, ps, h1, h2, h3, h4, h5, rfl⟩ := tiOf_spec h
    simp only at hs; subst hs
    exact (placesOf_get h4).2 _ f (by simpa [fieldsD] using hf)
  eqs t ti h hne xs ys as bs μ w hx hy ha hb := by
    obtain ⟨d, i, z, ps, h1, h2, h3, h4, h5, rfl⟩ := tiOf_spec h
    simp only [eqkOf] at hne ha hb
    cases hrow : isRow d with
    | false => simp [hrow] at hne
    | true =>
    simp only [hrow] at hne ha hb
    cases hg : P.eqGuardType P.depth t with
    | true => simp [hg] at hne
    | false =>
      simp only [hg] at hne ha hb
      refine ⟨?_, rfl⟩
      obtain ⟨dt, e1, e2⟩ := eq_sim (μ := μ) (w := w) 4 t hne 10000 (by omega)
      rw [h1] at e1; cases e1
      rw [hrow] at e2
      exact e2 as bs _ _ ha hb (by show VR μ (.agg as) (.agg xs); rw [VR]; exact ⟨xs, rfl, hx⟩) (by show VR μ (.agg bs) (.agg ys); rw [VR]; exact ⟨ys, rfl, hy⟩)

  zv t ti a h ha := by
    obtain ⟨d, i, z, ps, h1, h2, h3, h4, h5, rfl⟩ := tiOf_spec h
    exact ⟨i, z, h2, h3, zvOf_sim ha⟩

def Fof (P : Program) : Nat → Option FI := fun f =>
  match P.funcs[f]? with
  | some fn => match fn.body with
    | some c => match dstOk fn.ntmps c && !(fn.name == "runtime.NumGoroutine") with
      | true => match usesRange c && !(Nat.ble fn.ntmps HID) with
        | false => some { body := c, results := fn.results.toList, rf := usesRange c }
        | true => none
      | false => none
    | none => none
  | none => none

theorem Fof_agree (P : Program) : FAgree P (Fof P) where
  fn f fi h := by
    unfold Fof at h
    cases hf : P.funcs[f]? with
    | none => simp [hf] at h
    | some fn =>
      cases hb : fn.body with
      | none => simp [hf, hb] at h
      | some c =>
        simp only [hf, hb] at h
        split at h
        · rename_i hc
          simp only [Bool.and_eq_true, Bool.not_eq_true'] at hc
          split at h
          · rename_i hrf
            cases h
            refine ⟨fn, rfl, hb, rfl, hc.1, hc.2, fun h1 => ?_⟩
            simp only at h1
            rw [h1] at hrf
            exact Nat.le_of_ble_eq_true (by simpa using hrf)
          · cases h
        · cases h

end Go.AM
