/- Operations on two values, slicing, building. Own work. -/
import Derived.Test.YtghkgkjbdfnimaaAmOps2
namespace Go.AM
open Go
set_option linter.unusedVariables false
set_option linter.unusedSimpArgs false
set_option linter.unusedSectionVars false

section
variable {P : Program} {T : TT} (hT : TAgree P T) {μ : Img} (w : World)
include hT

theorem bin_sim {B : BS P} {h : AH} (hr : HR B μ h w.heap) {op : BinOp} {t : TypeId} {x y v : AV} {xv yv : Value} {xo yo : Operand} (hx : VR μ x xv) (hy : VR μ y yv)
    (hl : aBin T op t x y h = some v) : ∃ v', (do eqGuard op t xo yo xv yv; binOp op t xv yv).run P w = .ok v' w ∧ VR μ v v' := by
  unfold aBin at hl
  split at hl
  · rename_i k a k' b
    have := hx.int_inv; subst this
    have := hy.int_inv; subst this
    have hg : (eqGuard op t xo yo (.int k a) (.int k' b)).run P w = .ok () w := by cases op <;> simp [eqGuard]
    split at hl
    · split at hl
      · cases hl
      · rename_i hb; cases hl
        exact ⟨.int k (k.wrap (a * 2 ^ min b.toNat k.bits)), by simp [hg, binOp, Op.shift, hb], VR.mk_int _ _⟩
    · split at hl
      · cases hl
      · rename_i hb; cases hl
        exact ⟨.int k (a.fdiv (2 ^ min b.toNat k.bits)), by simp [hg, binOp, Op.shift, hb], VR.mk_int _ _⟩
    · rename_i hs1 hs2
      split at hl
      · rename_i hk; subst hk
        obtain ⟨v', hv', hvr⟩ := intOp_sim hT w (μ := μ) (op := op) (by intro e; exact hs1 e) (by intro e; exact hs2 e) hl t
        exact ⟨v', by simp [hg, hv'], hvr⟩
      · cases hl
  · rename_i a b
    have := hx.str_inv; subst this
    have := hy.str_inv; subst this
    have hg : (eqGuard op t xo yo (.string ⟨⟨a⟩⟩) (.string ⟨⟨b⟩⟩)).run P w = .ok () w := by cases op <;> simp [eqGuard]
    obtain ⟨v', hv', hvr⟩ := strOp_sim hT w (μ := μ) hl t
    exact ⟨v', by simp [hg, hv'], hvr⟩
  · rename_i b o b' o'
    obtain ⟨cb, δ, N, hm, rfl⟩ := hx.ptr_inv
    obtain ⟨cb', δ', N', hm', rfl⟩ := hy.ptr_inv
    have hg : (eqGuard op t xo yo (.pointer (some ⟨cb, δ + o, none⟩)) (.pointer (some ⟨cb', δ' + o', none⟩))).run P w = .ok () w := by cases op <;> simp [eqGuard]
    split at hl
    · rename_i hp
      unfold isPtr at hp
      split at hp
      · rename_i ti ht
        split at hp
        · rename_i e hd
          split at hp
          · rename_i te hte
            have hsz : te.size ≠ 0 := by
              intro e0; rw [e0] at hp; simp at hp
            have heq : ∀ r, eqP h b o b' o' = some r → (Op.equal t (.pointer (some ⟨cb, δ + o, none⟩)) (.pointer (some ⟨cb', δ' + o', none⟩))).run P w = .ok r w := by
              intro r hr'
              show (Op.equalIn (9999 + 1) t _ _).run P w = _
              rw [Op.equalIn]
              have := sameAddr_sim hT w hr hr' hm hm'
              simp [run_und hT ht, hd, run_sz hT hte, hsz, this]
            split at hl
            · cases hq : eqP h b o b' o' with
              | none => simp [hq] at hl
              | some r => simp [hq] at hl; subst hl; exact ⟨.bool r, by simp [hg, binOp, heq r hq], VR.mk_bool _⟩
            · cases hq : eqP h b o b' o' with
              | none => simp [hq] at hl
              | some r => simp [hq] at hl; subst hl; exact ⟨.bool !r, by simp [hg, binOp, heq r hq], VR.mk_bool _⟩
            · cases hl
          · cases hp
        · cases hp
      · cases hp
    · cases hl
  · split at hl
    · cases hq : eqV T t x y with
      | none => simp [hq] at hl
      | some r =>
        simp [hq] at hl; subst hl
        obtain ⟨h1, h2, h3, h4⟩ := eqV_sim hT w hx hy hq
        exact ⟨.bool r, by simp [h2, h3], VR.mk_bool _⟩
    · cases hq : eqV T t x y with
      | none => simp [hq] at hl
      | some r =>
        simp [hq] at hl; subst hl
        obtain ⟨h1, h2, h3, h4⟩ := eqV_sim hT w hx hy hq
        exact ⟨.bool !r, by simp [h2, h4], VR.mk_bool _⟩
    · cases hl

/-! Slicing. -/
def OVR (μ : Img) : Option AV → Option Value → Prop
  | none, none => True
  | some a, some v => VR μ a v
  | _, _ => False

theorem ovr_sim {e : Env} {a : Act} (he : ER μ e a) (x : Option Operand) : OVR μ (x.map (ev e)) (x.map a.eval) := by
  cases x with
  | none => trivial
  | some x => exact ev_sim he x

theorem bound_sim {x : Option AV} {xv : Option Value} (hx : OVR μ x xv) {d m y : Nat} {code : BoundsCode} (hb : bnd x d = some m) (hy : m ≤ y) :
    (match xv with | some v => Instr.sliceBound v y code | none => pure d).run P w = .ok m w := by
  cases x with
  | none =>
    cases xv with
    | some v => exact hx.elim
    | none => simp [bnd] at hb; subst hb; simp
  | some a =>
    cases xv with
    | none => exact hx.elim
    | some v =>
      cases a <;> simp [bnd] at hb
      rename_i k n
      have : v = .int k n := VR.int_inv (μ := μ) hx
      subst this
      obtain ⟨h0, rfl⟩ := hb
      have : n ≤ (y : Int) := by omega
      simp [Instr.sliceBound, asIntOf, h0, this]

theorem bounds_sim {lo hi mx : Option AV} {lov hiv mxv : Option Value} (hlo : OVR μ lo lov) (hhi : OVR μ hi hiv) (hmx : OVR μ mx mxv) (isSlice : Bool)
    {len cap c l h m : Nat} (hm : bnd mx cap = some m) (hh : bnd hi len = some h) (hl : bnd lo 0 = some l) (h1 : l ≤ h) (h2 : h ≤ m) (h3 : m ≤ cap) (h4 : cap ≤ c)
    (h5 : mx.isSome → hi.isSome) :
    (Instr.sliceBounds isSlice len c lov hiv mxv).run P w = .ok (l, h, if mx.isSome then m else c) w := by
  have hmx' : (match mxv with | some v => Instr.sliceBound v c (if isSlice then .slice3Acap else .slice3Alen) | none => pure c).run P w = .ok (if mx.isSome then m else c) w := by
    cases mx with
    | none => cases mxv with
      | some v => exact hmx.elim
      | none => simp
    | some a => cases mxv with
      | none => exact hmx.elim
      | some v => simpa using bound_sim hT w (code := if isSlice then .slice3Acap else .slice3Alen) (x := some a) (xv := some v) hmx hm (show m ≤ c by omega)
  unfold Instr.sliceBounds
  cases mx with
  | none =>
    cases mxv with
    | some v => exact hmx.elim
    | none =>
      simp only [bnd, Option.some.injEq] at hm; subst hm
      have hlo' := bound_sim hT w (code := .sliceB) hlo hl (show l ≤ h by omega)
      cases hi with
      | none => cases hiv with
        | some v => exact hhi.elim
        | none =>
          simp only [bnd, Option.some.injEq] at hh; subst hh
          cases lo with
          | none => cases lov with
            | some v => exact hlo.elim
            | none => simp at hlo' ⊢; exact hlo'
          | some a => cases lov with
            | none => exact hlo.elim
            | some v => simp at hlo' ⊢; simp [hlo']
      | some a => cases hiv with
        | none => exact hhi.elim
        | some u =>
          have hhi' := bound_sim hT w (code := if isSlice then .sliceAcap else .sliceAlen) (x := some a) (xv := some u) hhi hh (show h ≤ c by omega)
          simp only at hhi'
          cases lo with
          | none => cases lov with
            | some v => exact hlo.elim
            | none => simp at hlo' ⊢; simp [hhi', hlo']
          | some a => cases lov with
            | none => exact hlo.elim
            | some v => simp at hlo' ⊢; simp [hhi', hlo']
  | some b =>
    cases mxv with
    | none => exact hmx.elim
    | some u2 =>
      simp only [Option.isSome_some, if_true] at hmx' ⊢
      cases hi with
      | none => simp at h5
      | some a => cases hiv with
        | none => exact hhi.elim
        | some u =>
          have hhi' := bound_sim hT w (code := .slice3B) (x := some a) (xv := some u) hhi hh (show h ≤ m by omega)
          have hlo' := bound_sim hT w (code := .slice3C) hlo hl (show l ≤ h by omega)
          simp only at hhi' hmx'
          cases lo with
          | none => cases lov with
            | some v => exact hlo.elim
            | none => simp at hlo' ⊢; simp [hmx', hhi', hlo']
          | some a => cases lov with
            | none => exact hlo.elim
            | some v => simp at hlo' ⊢; simp [hmx', hhi', hlo']

theorem mul_split {l c sz : Nat} (h : l ≤ c) : l * sz + (c - l) * sz = c * sz := by
  rw [← Nat.add_mul]; congr 1; omega

theorem slice_sim {t : TypeId} {x v : AV} {xv : Value} {lo hi mx : Option AV} {lov hiv mxv : Option Value} (hx : VR μ x xv) (hlo : OVR μ lo lov) (hhi : OVR μ hi hiv)
    (hmx : OVR μ mx mxv) (hl : aSlice T t x lo hi mx = some v) : ∃ v', (Instr.sliceAt t xv lov hiv mxv).run P w = .ok v' w ∧ VR μ v v' := by
  unfold aSlice at hl
  split at hl
  · rename_i ti ht
    have hu := run_und hT ht w
    split at hl
    · -- a text
      rename_i s hd
      have := hx.str_inv; subst this
      split at hl
      · split at hl
        · rename_i h hh
          split at hl
          · rename_i l hll
            split at hl
            · rename_i hc
              cases hl
              cases mxv with
              | some v => exact hmx.elim
              | none =>
                have hb := bounds_sim hT w hlo hhi (mx := none) (mxv := none) trivial false (cap := s.length) (c := s.length) (m := s.length) rfl hh hll hc.1 hc.2 (Nat.le_refl _) (Nat.le_refl _) (by simp)
                refine ⟨.string ((⟨⟨s⟩⟩ : ByteArray).extract l h), ?_, ?_⟩
                · have hs : (⟨⟨s⟩⟩ : ByteArray).size = s.length := rfl
                  simp [Instr.sliceAt, hu, hd, Instr.slice, hs, hb]
                · have : (⟨⟨s⟩⟩ : ByteArray).extract l h = ⟨⟨(s.take h).drop l⟩⟩ := by
                    apply ByteArray.ext
                    apply Array.ext'
                    rw [Lib.extract_data, List.drop_take]
                  rw [this]; exact VR.mk_str _
            · cases hl
          · cases hl
        · cases hl
      · cases hl
    · -- a slice
      rename_i e b o len cap sz ex hd
      split at hl
      · rename_i te hte
        split at hl
        · rename_i m hm
          split at hl
          · rename_i h hh
            split at hl
            · rename_i l hll
              split at hl
              · rename_i hc
                obtain ⟨c1, c2, c3, c4, c5⟩ := hc
                cases hl
                obtain ⟨cb, δ, N, a, c, hmu, rfl, hor, hlc, hcc, hex⟩ := hx.sl_inv
                have hb := bounds_sim hT w hlo hhi hmx true hm hh hll c1 c2 c3 hcc c5
                have hrun : (Instr.sliceAt t (.slice (some a) len c) lov hiv mxv).run P w = .ok (.slice (if (if mx.isSome then m else c) = l then some a else (some a).map (·.add (l * sz))) (h - l) ((if mx.isSome then m else c) - l)) w := by
                  simp [Instr.sliceAt, hu, hd, Instr.slice, hb, run_sz hT hte, c4]
                refine ⟨_, hrun, ?_⟩
                rw [VR]
                have hml : m ≤ (if mx.isSome then m else c) := by split <;> omega
                have hmc : (if mx.isSome then m else c) ≤ c := by split <;> omega
                generalize hM : (if mx.isSome then m else c) = M at *
                by_cases hz : M = l
                · refine ⟨cb, δ, N, a, M - l, hmu, by rw [if_pos hz], .inl (by omega), by omega, by omega, ?_⟩
                  intro _; omega
                · have hc0 : c ≠ 0 := by omega
                  rcases hor with h0 | ⟨ha, hN⟩
                  · exact absurd h0 hc0
                  · subst ha
                    refine ⟨cb, δ, N, ⟨cb, δ + o + l * sz, none⟩, M - l, hmu, ?_, .inr ⟨by rw [Nat.add_assoc], ?_⟩, by omega, by omega, ?_⟩
                    · rw [if_neg hz]; simp [add_at]
                    · have h1 := mul_split hT (sz := sz) (show l ≤ M by omega)
                      have h2 : M * sz ≤ c * sz := Nat.mul_le_mul_right _ hmc
                      omega
                    · intro hx'
                      simp only [Bool.or_eq_true] at hx'
                      rcases hx' with hx' | hx'
                      · have := hex hx'
                        cases hmm : mx with
                        | none => rw [hmm] at hM hm; simp [bnd] at hM hm; omega
                        | some z => rw [hmm] at hM; simp at hM; omega
                      · rw [hx'] at hM; simp at hM; omega
              · cases hl
            · cases hl
          · cases hl
        · cases hl
      · cases hl
    · -- a list
      rename_i e ex sz n cs hd
      split at hl
      · rename_i te hte
        split at hl
        · rename_i m hm
          split at hl
          · rename_i h hh
            split at hl
            · rename_i l hll
              split at hl
              · rename_i hc
                obtain ⟨c1, c2, c3, c4, c5⟩ := hc
                cases hl
                obtain ⟨a, c, rfl, hnc, hex, hcs, ha0, hd2⟩ := hx.lst_inv
                have hb := bounds_sim hT w hlo hhi hmx true hm hh hll c1 c2 c3 hnc c5
                have hrun : (Instr.sliceAt t (.slice a n c) lov hiv mxv).run P w = .ok (.slice (if (if mx.isSome then m else c) = l then a else a.map (·.add (l * sz))) (h - l) ((if mx.isSome then m else c) - l)) w := by
                  simp [Instr.sliceAt, hu, hd, Instr.slice, hb, run_sz hT hte, c4]
                refine ⟨_, hrun, ?_⟩
                rw [VR]
                have hml : m ≤ (if mx.isSome then m else c) := by split <;> omega
                have hmc : (if mx.isSome then m else c) ≤ c := by split <;> omega
                have hmx2 : mx = none → m = n := by
                  intro hm0; rw [hm0] at hm; simp [bnd] at hm; omega
                refine ⟨_, _, rfl, by omega, ?_, ?_, ?_, ?_⟩
                · intro hx'
                  cases hmm : mx with
                  | none =>
                    rw [hmm] at hx'
                    simp at hx'
                    have := hex hx'.1
                    simp
                    omega
                  | some z =>
                    rw [hmm] at hx'
                    simp at hx'
                    simp
                    omega
                · have h1 : (h - l) * sz ≤ n * sz - l * sz := by rw [← Nat.sub_mul]; exact Nat.mul_le_mul_right _ (by omega)
                  simp [hcs]; omega
                · intro ha
                  have : a = none := by
                    cases a with
                    | none => rfl
                    | some x =>
                      exfalso
                      revert ha
                      generalize (if mx.isSome = true then m else c) = q
                      by_cases hq : q = l
                      · simp [hq]
                      · simp [hq]
                  obtain ⟨rfl, rfl⟩ := ha0 this
                  omega
                · intro hpos
                  obtain ⟨cb, off, arr, rfl, hfz, hle, hvr⟩ := hd2 (by omega)
                  have hne : ¬ (if mx.isSome then m else c) = l := by omega
                  have h1 : l * sz + (h - l) * sz ≤ n * sz := by rw [← Nat.add_mul]; exact Nat.mul_le_mul_right _ (by omega)
                  refine ⟨cb, off + l * sz, arr, by rw [if_neg hne]; simp [add_at], hfz, by omega, ?_⟩
                  have := (hvr.fz_drop (l * sz)).take ((h - l) * sz)
                  rwa [List.take_take, Nat.min_eq_left (by omega)] at this
              · cases hl
            · cases hl
          · cases hl
        · cases hl
      · cases hl
    · -- nil
      rename_i e hd
      have := hx.nils_inv; subst this
      split at hl
      · rename_i te hte
        split at hl
        · rename_i m hm
          split at hl
          · rename_i h hh
            split at hl
            · rename_i l hll
              split at hl
              · rename_i hc
                obtain ⟨rfl, rfl, rfl, c5⟩ := hc
                cases hl
                have hb := bounds_sim hT w hlo hhi hmx true hm hh hll (Nat.le_refl _) (Nat.le_refl _) (Nat.le_refl _) (Nat.le_refl _) c5
                refine ⟨.slice none 0 0, ?_, by rw [VR]⟩
                simp [Instr.sliceAt, hu, hd, Instr.slice, hb, run_sz hT hte]
              · cases hl
            · cases hl
          · cases hl
        · cases hl
      · cases hl
    · cases hl
  · cases hl


/-! Building structs, rows. -/
omit hT in
theorem run_mapM_list {α β : Type} {f : α → Sem β} {g : α → β} : ∀ (l : List α), (∀ x ∈ l, (f x).run P w = .ok (g x) w) → (l.mapM f).run P w = .ok (l.map g) w
  | [], _ => by simp
  | x :: l, h => by
    simp only [List.mapM_cons, Sem.run_bind, h x (by simp), Result.andThen_ok, run_mapM_list l (fun y hy => h y (by simp [hy]))]
    simp

omit hT in
theorem fold_fill (off : Nat) : ∀ (l : List Value) (k : Nat) (arr : Array Value), off + k + l.length ≤ arr.size →
    ((l.zipIdx k).foldl (fun (cs : Array Value) (p : Value × Nat) => cs.setIfInBounds (off + p.2) p.1) arr).toList = arr.toList.take (off + k) ++ l ++ arr.toList.drop (off + k + l.length)
  | [], k, arr, h => by simp
  | c :: l, k, arr, h => by
    simp only [List.length_cons] at h
    simp only [List.zipIdx_cons, List.foldl_cons]
    rw [fold_fill off l (k + 1) _ (by simp; omega)]
    have hlt : off + k < arr.size := by omega
    rw [Array.toList_setIfInBounds]
    have h1 : (arr.toList.set (off + k) c).take (off + (k + 1)) = arr.toList.take (off + k) ++ [c] := by
      rw [← Nat.add_assoc, List.take_succ_eq_append_getElem (by simpa using hlt)]
      simp [List.take_set_of_le]
    have h2 : (arr.toList.set (off + k) c).drop (off + (k + 1) + l.length) = arr.toList.drop (off + k + (l.length + 1)) := by
      rw [List.drop_set_of_lt (by omega)]
      congr 1; omega
    rw [h1, h2]
    simp

omit hT in
theorem fill_sim {place : Nat → Option (Nat × Nat)} : ∀ {l : List (Nat × AV)} {lv : List (Nat × Value)} {cells : List AV} {arr : Array Value} {cs : List AV},
    (∃ (ps : List (Nat × AV × Value)), l = ps.map (fun p => (p.1, p.2.1)) ∧ lv = ps.map (fun p => (p.1, p.2.2)) ∧ ∀ p ∈ ps, VR μ p.2.1 p.2.2) → VRL μ cells arr.toList →
    fillA place cells l = some cs → ∃ arr', Instr.fill place arr lv = some arr' ∧ VRL μ cs arr'.toList := by
  intro l lv cells arr cs ⟨ps, hl, hlv, hps⟩
  induction ps generalizing l lv cells arr with
  | nil =>
    intro hc hf
    subst hl; subst hlv
    simp only [List.map_nil, fillA, Option.some.injEq] at hf; subst hf
    exact ⟨arr, rfl, hc⟩
  | cons p ps ih =>
    intro hc hf
    subst hl; subst hlv
    obtain ⟨i, a, v⟩ := p
    simp only [List.map_cons, fillA] at hf
    have hav : VR μ a v := hps (i, a, v) (by simp)
    split at hf
    · rename_i off size acs hpl hac
      split at hf
      · rename_i hcond
        have hvc := hav.cells hac
        have hlen := hvc.length
        have hcl := hc.length
        have hlen' : acs.length = v.cells.size := by simpa using hlen
        have hcl' : cells.length = arr.size := by simpa using hcl
        simp only [List.map_cons, Instr.fill, hpl]
        rw [if_neg (by simp; omega)]
        refine ih rfl rfl (fun q hq => hps q (by simp [hq])) ?_ hf
        have := fold_fill off v.cells.toList 0 arr (by simp; omega)
        have e : (v.cells.zipIdx.foldl (fun cs (x : Value × Nat) => cs.setIfInBounds (off + x.2) x.1) arr) = ((v.cells.toList.zipIdx 0).foldl (fun (cs : Array Value) (p : Value × Nat) => cs.setIfInBounds (off + p.2) p.1) arr) := by
          rw [← Array.foldl_toList, Array.toList_zipIdx]
        rw [e, this]
        unfold AH.splice
        simp only [Nat.add_zero]
        refine VRL.append (VRL.append (hc.take _) hvc) ?_
        rw [hlen]
        exact hc.drop _
      · cases hf
    · cases hf

theorem parts_sim {e : Env} {a : Act} (he : ER μ e a) (ps : Array (Nat × Operand)) :
    ∃ qs : List (Nat × AV × Value), parts e ps = qs.map (fun p => (p.1, p.2.1)) ∧ (ps.map fun (i, x) => (i, a.eval x)).toList = qs.map (fun p => (p.1, p.2.2)) ∧ ∀ p ∈ qs, VR μ p.2.1 p.2.2 := by
  refine ⟨ps.toList.map fun p => (p.1, ev e p.2, a.eval p.2), ?_, ?_, ?_⟩
  · simp [parts]
  · simp
  · intro p hp
    simp only [List.mem_map] at hp
    obtain ⟨q, _, rfl⟩ := hp
    exact ev_sim he q.2

theorem build_sim {t : TypeId} {l : List (Nat × AV)} {lv : Array (Nat × Value)} {v : AV}
    (hps : ∃ qs : List (Nat × AV × Value), l = qs.map (fun p => (p.1, p.2.1)) ∧ lv.toList = qs.map (fun p => (p.1, p.2.2)) ∧ ∀ p ∈ qs, VR μ p.2.1 p.2.2)
    (hl : aBuild T t l = some v) : ∃ v', (Instr.build t lv).run P w = .ok v' w ∧ VR μ v v' := by
  unfold aBuild at hl
  split at hl
  · rename_i ti ht
    obtain ⟨z, hz, hzs, hzr⟩ := run_zero hT ht w
    have hu := run_und hT ht w
    split at hl
    · rename_i fs hd
      cases hf : fillA (fun i => (ti.places[i]?).map fun p => (p.1, p.2.1)) ti.zero l with
      | none => simp [hf] at hl
      | some cs =>
        simp [hf] at hl; subst hl
        have hpl : (fs.mapM (fun f => (do pure (f.offset, ← sizeOf f.type) : Sem (Nat × Nat)))).run P w = .ok (ti.places.toArray.map fun p => (p.1, p.2.1)) w := by
          rw [Array.mapM_eq_mapM_toList]
          have := run_mapM_list (P := P) w (f := fun f : Field => (do pure (f.offset, ← sizeOf f.type) : Sem (Nat × Nat))) (g := fun f => (f.offset, ((P.info? f.type).map (·.size)).getD 0)) fs.toList (fun f hf => by
            obtain ⟨i, hi, hfe⟩ := List.getElem_of_mem hf
            obtain ⟨ft, d, h1, h2, h3⟩ := hT.place t ti fs i f ht hd (by simp at hi; simp [hi]; simpa using hfe)
            simp [sizeOf, typeInfo, h1])
          simp only [Sem.run_map, this, Result.andThen_ok]
          congr 1
          apply Array.ext'
          apply List.ext_getElem?
          intro i
          simp only [List.getElem?_map, Array.toList_map]
          cases hfi : fs[i]? with
          | none =>
            have h0 : fs.size ≤ i := by simpa using hfi
            have h1 : ti.places[i]? = none := by rw [List.getElem?_eq_none_iff, hT.plen t ti fs ht hd]; exact h0
            simp [h1, hfi]
          | some f =>
            obtain ⟨ft, d, h1, h2, h3⟩ := hT.place t ti fs i f ht hd hfi
            simp [h3, hfi, h1]
        obtain ⟨arr', hfill, hvr⟩ := fill_sim (μ := μ) (place := fun i => (ti.places[i]?).map fun p => (p.1, p.2.1)) (arr := z.cells) hps (hzr μ) hf
        refine ⟨.agg arr', ?_, VR.mk_agg hvr⟩
        have hfill' : Instr.fill (fun x => (ti.places.toArray.map fun p => (p.1, p.2.1))[x]?) z.cells lv.toList = some arr' := by
          rw [← hfill]; congr 1; funext i; simp
        simp only [Instr.build, Sem.run_bind, hz, Result.andThen_ok, hu, hd, Sem.run_pure, hpl]
        simp [hfill]
    · rename_i n e hd
      split at hl
      · rename_i te hte
        cases hf : fillA (fun i => some (i * te.size, te.size)) ti.zero l with
        | none => simp [hf] at hl
        | some cs =>
          simp [hf] at hl; subst hl
          obtain ⟨arr', hfill, hvr⟩ := fill_sim (μ := μ) (place := fun i => some (i * te.size, te.size)) (arr := z.cells) hps (hzr μ) hf
          refine ⟨.agg arr', ?_, VR.mk_agg hvr⟩
          simp [Instr.build, hz, hu, hd, run_sz hT hte, hfill]
      · cases hl
    · cases hl
  · cases hl

theorem len_sim {B : BS P} {h : AH} (hr : HR B μ h w.heap) {t : TypeId} {x v : AV} {xv : Value} (hx : VR μ x xv) (hl : aLen T t x h = some v) (ty : TypeId) :
    ∃ v', (Builtin.len_ #[t] ty #[xv]).run P w = .ok v' w ∧ VR μ v v' := by
  unfold aLen at hl
  split at hl
  · rename_i ti ht
    have hu := run_und hT ht w
    split at hl
    · rename_i s hd; cases hl; have := hx.str_inv; subst this
      have hs : (⟨⟨s⟩⟩ : ByteArray).size = s.length := rfl
      exact ⟨.int .i64 s.length, by simp [Builtin.len_, hu, hd, goInt, hs], VR.mk_int _ _⟩
    · rename_i hd; cases hl; have := hx.nils_inv; subst this
      exact ⟨.int .i64 0, by simp [Builtin.len_, hu, hd, goInt], VR.mk_int _ _⟩
    · rename_i len _ _ _ hd; cases hl; obtain ⟨cb, δ, N, a, c, hmu, rfl, _⟩ := hx.sl_inv
      exact ⟨.int .i64 len, by simp [Builtin.len_, hu, hd, goInt], VR.mk_int _ _⟩
    · rename_i len _ hd; cases hl; obtain ⟨a, c, rfl, _⟩ := hx.lst_inv
      exact ⟨.int .i64 len, by simp [Builtin.len_, hu, hd, goInt], VR.mk_int _ _⟩
    · rename_i n _ hd; cases hl
      exact ⟨.int .i64 n, by simp [Builtin.len_, hu, hd, goInt], VR.mk_int _ _⟩
    · rename_i hd; cases hl; have := hx.nilm_inv; subst this
      exact ⟨.int .i64 0, by simp [Builtin.len_, hu, hd, goInt], VR.mk_int _ _⟩
    · rename_i b hd
      obtain ⟨cb, δ, N, hmu, rfl⟩ := hx.mp_inv
      split at hl
      · rename_i es hb
        cases hl
        obtain ⟨_, c1, d1, n1, ents, clock, h1, h2, h3, h4⟩ := hr.blk b _ hb
        rw [hmu] at h1; cases h1
        refine ⟨.int .i64 es.length, ?_, VR.mk_int _ _⟩
        have hg : (getObj cb).run P w = .ok (.map ents clock) w := by simp [getObj, Sem.run, h2]
        simp [Builtin.len_, hu, hd, goInt, hg, h4.len]
      · cases hl
    · cases hl
  · cases hl

end
end Go.AM
