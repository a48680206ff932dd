/- More operations that leave memory as it is. Own work. -/
import Derived.Test.YtghkgkjbdfnimaaAmOps1
import Derived.Lib.Strings
namespace Go.AM
open Go
set_option linter.unusedVariables false
set_option linter.unusedSimpArgs false
set_option linter.unusedSectionVars false

section
variable {P : Program} {T : TT} (hT : TAgree P T) {μ : Img} (w : World)
include hT

theorem fieldAddr_sim {t : TypeId} {x v : AV} {xv : Value} {f : Nat}
    (hx : VR μ x xv) (hl : aFieldAddr T t x f = some v) : ∃ v', (Instr.fieldAt t xv f).run P w = .ok v' w ∧ VR μ v v' := by
  unfold aFieldAddr at hl
  split at hl
  · rename_i ti b o ht
    obtain ⟨cb, δ, N, hm, rfl⟩ := hx.ptr_inv
    split at hl
    · rename_i off size agg hp
      split at hl
      · cases hl
      · rename_i hsz
        cases hl
        obtain ⟨fs, hd⟩ := hT.pstr t ti ht (by intro e; rw [e] at hp; simp at hp)
        have hlt : f < fs.size := by
          rw [← hT.plen t ti fs ht hd]
          exact (List.getElem?_eq_some_iff.1 hp).1
        obtain ⟨ft, d, h1, h2, h3⟩ := hT.place t ti fs f fs[f] ht hd (by simp [hlt])
        rw [hp] at h3; cases h3
        refine ⟨.pointer (some ⟨cb, δ + (o + fs[f].offset), none⟩), ?_, VR.mk_ptr hm rfl⟩
        have hsz' : (sizeOf fs[f].type).run P w = .ok ft.size w := by simp [sizeOf, typeInfo, h1]
        simp [Instr.fieldAt, run_und hT ht, hd, hlt, Instr.sureAddr, fieldPlace, hsz', hsz, add_at, Nat.add_assoc]
    · cases hl
  · rename_i ti cs ht
    obtain ⟨cb, fo, arr, rfl, hfz, hle, hvr⟩ := hx.fp_inv
    split at hl
    · rename_i off size agg hp
      split at hl
      · cases hl
      · rename_i hsz
        cases hl
        obtain ⟨fs, hd⟩ := hT.pstr t ti ht (by intro e; rw [e] at hp; simp at hp)
        have hlt : f < fs.size := by
          rw [← hT.plen t ti fs ht hd]
          exact (List.getElem?_eq_some_iff.1 hp).1
        obtain ⟨ft, d, h1, h2, h3⟩ := hT.place t ti fs f fs[f] ht hd (by simp [hlt])
        rw [hp] at h3; cases h3
        have hs0 : ¬ ft.size = 0 := fun e => hsz (.inl e)
        have hs1 : fs[f].offset ≤ cs.length := Nat.le_of_not_lt fun e => hsz (.inr e)
        refine ⟨.pointer (some ⟨cb, fo + fs[f].offset, none⟩), ?_, ?_⟩
        · have hsz' : (sizeOf fs[f].type).run P w = .ok ft.size w := by simp [sizeOf, typeInfo, h1]
          simp [Instr.fieldAt, run_und hT ht, hd, hlt, Instr.sureAddr, fieldPlace, hsz', hs0, add_at, Nat.add_assoc]
        · rw [VR]
          exact ⟨cb, _, arr, rfl, hfz, by simp; omega, by have := hvr.fz_drop fs[f].offset; simpa using this⟩
    · cases hl
  · cases hl

theorem indexAddr_sim {t : TypeId} {x i v : AV} {xv iv : Value}
    (hx : VR μ x xv) (hi : VR μ i iv) (hl : aIndexAddr T t x i = some v) : ∃ v', (Instr.indexAt t xv iv).run P w = .ok v' w ∧ VR μ v v' := by
  unfold aIndexAddr at hl
  split at hl
  · rename_i ti k n ht
    have := hi.int_inv; subst this
    split at hl
    · rename_i e b o len cap sz ex hd
      split at hl
      · rename_i te hte
        split at hl
        · rename_i hc
          obtain ⟨h0, h1, h2⟩ := hc
          cases hl
          obtain ⟨cb, δ, N, a, c, hm, rfl, hor, hlc, hcc, hex⟩ := hx.sl_inv
          have ha : a = ⟨cb, δ + o, none⟩ := by rcases hor with h | h; · omega
                                                exact h.1
          subst ha
          refine ⟨.pointer (some ⟨cb, δ + (o + n.toNat * sz), none⟩), ?_, VR.mk_ptr hm rfl⟩
          simp [Instr.indexAt, asIntOf, run_und hT ht, hd, h0, h1, run_sz hT hte, h2, add_at, Nat.add_assoc]
        · cases hl
      · cases hl
    · rename_i e ex sz len cs hd
      split at hl
      · rename_i te hte
        split at hl
        · rename_i hc
          obtain ⟨h0, h1, h2⟩ := hc
          cases hl
          obtain ⟨a, c, rfl, hnc, hex, hcs, ha0, hd2⟩ := hx.lst_inv
          obtain ⟨cb, off, arr, rfl, hfz, hle, hvr⟩ := hd2 (by omega)
          have hmul : n.toNat * sz ≤ len * sz := Nat.mul_le_mul_right _ (by omega)
          refine ⟨.pointer (some ⟨cb, off + n.toNat * sz, none⟩), ?_, ?_⟩
          · simp [Instr.indexAt, asIntOf, run_und hT ht, hd, h0, h1, run_sz hT hte, h2, add_at, Nat.add_assoc]
          · rw [VR]
            refine ⟨cb, _, arr, rfl, hfz, by simp [hcs]; omega, ?_⟩
            have := hvr.fz_drop (n.toNat * sz)
            simpa [hcs] using this
        · cases hl
      · cases hl
    · rename_i len e b o hd
      split at hl
      · rename_i te hte
        split at hl
        · rename_i hc
          obtain ⟨h0, h1⟩ := hc
          cases hl
          obtain ⟨cb, δ, N, hm, rfl⟩ := hx.ptr_inv
          refine ⟨.pointer (some ⟨cb, δ + (o + n.toNat * te.size), none⟩), ?_, VR.mk_ptr hm rfl⟩
          simp [Instr.indexAt, asIntOf, run_und hT ht, hd, Instr.sureAddr, h0, h1, run_sz hT hte, add_at, Nat.add_assoc]
        · cases hl
      · cases hl
    · cases hl
  · cases hl

theorem elem_agg {e : TypeId} {te : TI} (hte : T e = some te) : ∃ i d, P.info? e = some i ∧ i.size = te.size ∧ P.underlying e = some d ∧ te.agg = isRow d := by
  obtain ⟨i, z, hi, hs, _⟩ := hT.info e te hte
  exact ⟨i, te.desc, hi, hs, hT.und e te hte, hT.agg e te hte⟩

theorem index_sim {t : TypeId} {x i v : AV} {xv iv : Value}
    (hx : VR μ x xv) (hi : VR μ i iv) (hl : aIndex T t x i = some v) : ∃ v', (Instr.index t xv iv).run P w = .ok v' w ∧ VR μ v v' := by
  unfold aIndex at hl
  split at hl
  · rename_i ti k n ht
    have := hi.int_inv; subst this
    split at hl
    · rename_i len e cs hd
      split at hl
      · rename_i te hte
        split at hl
        · rename_i hc
          obtain ⟨h0, h1⟩ := hc
          obtain ⟨vs, rfl, hvs⟩ := hx.agg_inv
          obtain ⟨ii, d, hi1, hi2, hi3, hi4⟩ := elem_agg hT hte
          rw [hi4] at hl
          obtain ⟨v', hv', hvr⟩ := part_sim (P := P) hvs hi1 hi2 hi3 hl w
          exact ⟨v', by simp [Instr.index, asIntOf, run_und hT ht, hd, h0, h1, run_sz hT hte, hv'], hvr⟩
        · cases hl
      · cases hl
    · rename_i s hd
      split at hl
      · rename_i h0
        cases hs : s[n.toNat]? with
        | none => simp [hs] at hl
        | some c =>
          simp [hs] at hl; subst hl
          have := hx.str_inv; subst this
          refine ⟨.int .u8 c.toNat, ?_, VR.mk_int _ _⟩
          have hc : (⟨⟨s⟩⟩ : ByteArray)[n.toNat]? = some c := by
            have hlt : n.toNat < s.length := (List.getElem?_eq_some_iff.1 hs).1
            have hv : s[n.toNat] = c := (List.getElem?_eq_some_iff.1 hs).2
            have hsz : n.toNat < (⟨⟨s⟩⟩ : ByteArray).size := hlt
            rw [getElem?_pos (⟨⟨s⟩⟩ : ByteArray) n.toNat hsz]
            exact congrArg some hv
          simp [Instr.index, asIntOf, run_und hT ht, hd, h0, hc]
      · cases hl
    · cases hl
  · cases hl

theorem extract_sim {x v : AV} {xv : Value} {i : Nat} (hx : VR μ x xv) (hl : aExtract x i = some v) : ∃ v', (Instr.extract xv i).run P w = .ok v' w ∧ VR μ v v' := by
  unfold aExtract at hl
  split at hl
  · rename_i vs
    obtain ⟨us, rfl, hus⟩ := hx.tup_inv
    obtain ⟨v', hv', hvr⟩ := hus.get hl
    have hv2 : us[i]? = some v' := by simpa using hv'
    exact ⟨v', by simp [Instr.extract, hv2], hvr⟩
  · cases hl

theorem nil_sim {x v : AV} {xv : Value} (hx : VR μ x xv) (hl : aNil x = some v) : (∃ a, xv = .pointer (some a)) ∧ VR μ v xv := by
  unfold aNil at hl
  split at hl
  · cases hl
    obtain ⟨cb, δ, N, hm, rfl⟩ := hx.ptr_inv
    exact ⟨⟨_, rfl⟩, hx⟩
  · cases hl
    obtain ⟨cb, fo, arr, rfl, _⟩ := hx.fp_inv
    exact ⟨⟨_, rfl⟩, hx⟩
  · cases hl

theorem pick_sim {c a b v : AV} {cv av bv : Value} (hc : VR μ c cv) (ha : VR μ a av) (hb : VR μ b bv) (hl : aPick c a b = some v) :
    ∃ t : Bool, cv = .bool t ∧ VR μ v (if t then av else bv) := by
  unfold aPick at hl
  split at hl
  · cases hl; exact ⟨true, hc.bool_inv, ha⟩
  · cases hl; exact ⟨false, hc.bool_inv, hb⟩
  · cases hl

theorem un_sim {op : UnOp} {x v : AV} {xv : Value} (hx : VR μ x xv) (hl : aUn op x = some v) : ∃ v', (Op.unary op xv).run P w = .ok v' w ∧ VR μ v v' := by
  unfold aUn at hl
  split at hl
  · cases hl; have := hx.int_inv; subst this
    exact ⟨_, rfl, VR.mk_int _ _⟩
  · cases hl; have := hx.bool_inv; subst this
    exact ⟨_, rfl, VR.mk_bool _⟩
  · cases hl

theorem intOp_sim {op : BinOp} {k : IntKind} {a b : Int} {v : AV} (hs1 : op ≠ .shl) (hs2 : op ≠ .shr) (hl : intOp op k a b = some v) (t : TypeId) :
    ∃ v', (binOp op t (.int k a) (.int k b)).run P w = .ok v' w ∧ VR μ v v' := by
  cases op <;> simp only [intOp, reduceCtorEq] at hl <;> first
    | (simp at hs1; done)
    | (simp at hs2; done)
    | (cases hl; refine ⟨_, by simp only [binOp, ne_eq, not_true_eq_false, if_false]; rfl, ?_⟩; first | exact VR.mk_int _ _ | exact VR.mk_bool _)
    | (split at hl
       · cases hl
       · rename_i hz; cases hl
         refine ⟨_, by simp only [binOp, ne_eq, not_true_eq_false, if_false, Op.intDiv, if_neg hz]; rfl, VR.mk_int _ _⟩)

theorem toList_mk (s : List UInt8) : (⟨⟨s⟩⟩ : ByteArray).toList = s := by
  rw [Lib.toList_data]

theorem strOp_sim {op : BinOp} {a b : List UInt8} {v : AV} (hl : strOp op a b = some v) (t : TypeId) :
    ∃ v', (binOp op t (.string ⟨⟨a⟩⟩) (.string ⟨⟨b⟩⟩)).run P w = .ok v' w ∧ VR μ v v' := by
  have e : ∀ op, binOp op t (.string ⟨⟨a⟩⟩) (.string ⟨⟨b⟩⟩) = Op.stringOp op ⟨⟨a⟩⟩ ⟨⟨b⟩⟩ := by intro op; cases op <;> rfl
  rw [e]
  have ha := toList_mk hT a
  have hb := toList_mk hT b
  cases op <;> simp only [strOp, reduceCtorEq] at hl
  case add =>
    split at hl
    · cases hl
    · rename_i hlt
      cases hl
      refine ⟨.string ⟨⟨a ++ b⟩⟩, ?_, VR.mk_str _⟩
      have hlt' : ¬ (((⟨⟨a⟩⟩ : ByteArray).size + (⟨⟨b⟩⟩ : ByteArray).size : Nat) : Int) > IntKind.i64.max := by
        show ¬ ((a.length + b.length : Nat) : Int) > 9223372036854775807
        exact hlt
      have hcat : (⟨⟨a⟩⟩ ++ ⟨⟨b⟩⟩ : ByteArray) = ⟨⟨a ++ b⟩⟩ := by
        apply ByteArray.ext
        rw [ByteArray.data_append]
        simp
      simp only [Op.stringOp, if_neg hlt']
      rw [hcat]; rfl
  all_goals (cases hl; refine ⟨_, by simp only [Op.stringOp, ha, hb]; rfl, VR.mk_bool _⟩)

/-- Two values of which the abstract machine tells whether they are equal. -/
theorem eqV_sim {t : TypeId} {x y : AV} {xv yv : Value} {r : Bool} (hx : VR μ x xv) (hy : VR μ y yv) (hl : eqV T t x y = some r) :
    (Op.equal t xv yv).run P w = .ok r w ∧ (∀ op xo yo, (eqGuard op t xo yo xv yv).run P w = .ok () w) ∧
    (binOp .eql t xv yv).run P w = .ok (.bool r) w ∧ (binOp .neq t xv yv).run P w = .ok (.bool (!r)) w := by
  unfold eqV at hl
  split at hl
  · cases hl
  · rename_i ti ht
    have hu := run_und hT ht w
    split at hl
    case h_18 xs ys hd =>
      split at hl
      · rename_i hc
        cases hl
        simp only [Bool.and_eq_true, Bool.not_eq_true', List.isEmpty_eq_false_iff] at hc
        obtain ⟨us, rfl, hus⟩ := hx.agg_inv
        obtain ⟨vs, rfl, hvs⟩ := hy.agg_inv
        obtain ⟨h1, h2⟩ := hT.eqs t ti ht hc.2 us vs xs ys μ w hus hvs hc.1.1 hc.1.2
        refine ⟨h1, fun op xo yo => ?_, ?_, ?_⟩
        · cases op <;> simp [eqGuard, h2]
        · simp [binOp, h1]
        · simp [binOp, h1]
      · cases hl
    case h_19 xs ys hd =>
      split at hl
      · rename_i hc
        cases hl
        simp only [Bool.and_eq_true, Bool.not_eq_true', List.isEmpty_eq_false_iff] at hc
        obtain ⟨us, rfl, hus⟩ := hx.agg_inv
        obtain ⟨vs, rfl, hvs⟩ := hy.agg_inv
        obtain ⟨h1, h2⟩ := hT.eqs t ti ht hc.2 us vs xs ys μ w hus hvs hc.1.1 hc.1.2
        refine ⟨h1, fun op xo yo => ?_, ?_, ?_⟩
        · cases op <;> simp [eqGuard, h2]
        · simp [binOp, h1]
        · simp [binOp, h1]
      · cases hl
    case h_20 => cases hl
    case h_8 hd =>
      split at hl
      · cases hl
        rw [hd] at hu
        have := hx.nils_inv; subst this
        obtain ⟨a, c, rfl, _, _, _, ha, hb⟩ := hy.lst_inv
        obtain ⟨_, _, _, rfl, _⟩ := hb ‹_›
        refine have h1 := (?_ : (Op.equal t _ _).run P w = .ok _ w); ⟨h1, fun op xo yo => by cases op <;> simp [eqGuard], by simp [binOp, h1], by simp [binOp, h1]⟩
        show (Op.equalIn (9999 + 1) t _ _).run P w = _
        rw [Op.equalIn]
        simp [hu]
      · cases hl
    case h_9 hd =>
      split at hl
      · cases hl
        rw [hd] at hu
        have := hy.nils_inv; subst this
        obtain ⟨a, c, rfl, _, _, _, ha, hb⟩ := hx.lst_inv
        obtain ⟨_, _, _, rfl, _⟩ := hb ‹_›
        refine have h1 := (?_ : (Op.equal t _ _).run P w = .ok _ w); ⟨h1, fun op xo yo => by cases op <;> simp [eqGuard], by simp [binOp, h1], by simp [binOp, h1]⟩
        show (Op.equalIn (9999 + 1) t _ _).run P w = _
        rw [Op.equalIn]
        simp [hu]
      · cases hl
    all_goals
      rename_i hd
      cases hl
      rw [hd] at hu
      rw [VR] at hx; rw [VR] at hy
      first
        | (obtain ⟨_, _, _, _, _, _, rfl, _⟩ := hx)
        | (obtain ⟨_, _, _, _, rfl⟩ := hx)
        | (obtain ⟨_, _, rfl, _, _⟩ := hx)
        | (obtain ⟨_, _, _, rfl, _⟩ := hx)
        | subst hx
      first
        | (obtain ⟨_, _, _, _, _, _, rfl, _⟩ := hy)
        | (obtain ⟨_, _, _, _, rfl⟩ := hy)
        | (obtain ⟨_, _, rfl, _, _⟩ := hy)
        | (obtain ⟨_, _, _, rfl, _⟩ := hy)
        | subst hy
      refine have h1 := (?_ : (Op.equal t _ _).run P w = .ok _ w); ⟨h1, fun op xo yo => by cases op <;> simp [eqGuard], by simp [binOp, h1], by simp [binOp, h1]⟩
      show (Op.equalIn (9999 + 1) t _ _).run P w = _
      rw [Op.equalIn]
      simp [hu]

theorem sameAddr_sim {B : BS P} {h : AH} (hr : HR B μ h w.heap) {b o b' o' cb δ N cb' δ' N' : Nat} {r : Bool} (hl : eqP h b o b' o' = some r)
    (hm : μ b = some (cb, δ, N)) (hm' : μ b' = some (cb', δ', N')) :
    (sameAddr ⟨cb, δ + o, none⟩ ⟨cb', δ' + o', none⟩).run P w = .ok r w := by
  unfold eqP at hl
  split at hl
  · rename_i cs cs' hb hb'
    cases hl
    obtain ⟨_, c1, d1, n1, arr, el, fz, h1, h2, h3, _, h4⟩ := hr.blk b _ hb
    obtain ⟨_, c2, d2, n2, arr2, el2, fz2, k1, k2, k3, _, k4⟩ := hr.blk b' _ hb'
    rw [hm] at h1; cases h1
    rw [hm'] at k1; cases k1
    have hz := (h4 (by simp)).2.2.2 rfl
    have kz := (k4 (by simp)).2.2.2 rfl
    subst hz; subst kz
    have f1 : ∀ off, w.frozen? ⟨cb, off, none⟩ = false := by intro off; simp [World.frozen?, h2]
    have f2 : ∀ off, w.frozen? ⟨cb', off, none⟩ = false := by intro off; simp [World.frozen?, k2]
    have s1 : w.shape? cb = some (el, arr.size) := by simp [World.shape?, h2]
    have s2 : w.shape? cb' = some (el2, arr2.size) := by simp [World.shape?, k2]
    by_cases e : b = b'
    · subst e
      rw [hm] at hm'; cases hm'
      have : (Nat.beq b b && Nat.beq o o') = ((⟨cb, δ + o, none⟩ : Addr) == ⟨cb, δ + o', none⟩) := by
        rw [Bool.eq_iff_iff]
        simp
      rw [this]
      simp [sameAddr]
    · have hne : cb ≠ cb' := hr.inj b b' _ _ _ _ e hb hb' rfl rfl hm hm'
      have hbe : (Nat.beq b b' && Nat.beq o o') = false := by
        have : Nat.beq b b' = false := by
          cases hq : Nat.beq b b' with
          | false => rfl
          | true => exact absurd (Nat.eq_of_beq_eq_true hq) e
        simp [this]
      rw [hbe]
      simp [sameAddr, hne, f1, f2, noView, viewAt, s1, s2, mayBeOne, stringish]
  · cases hl

end
end Go.AM
