/- Operations that leave memory as it is: the abstract machine's and the machine's own. Own work. -/
import Derived.Test.YtghkgkjbdfnimaaAmRel
import Derived.Calls
namespace Go.AM
open Go
set_option linter.unusedVariables false
set_option linter.unusedSimpArgs false

def isRow : TypeDesc → Bool
  | .struct _ | .array _ _ => true
  | _ => false

/-- What the table of types says is so in the program. -/
structure TAgree (P : Program) (T : TT) : Prop where
  und : ∀ t ti, T t = some ti → P.underlying t = some ti.desc
  info : ∀ t ti, T t = some ti → ∃ i z, P.info? t = some i ∧ i.size = ti.size ∧ i.bytes = ti.bytes ∧ i.zero = some z ∧ z.cells.size = ti.size ∧ ∀ μ, VRL μ ti.zero z.cells.toList
  agg : ∀ t ti, T t = some ti → ti.agg = isRow ti.desc
  plen : ∀ t ti fs, T t = some ti → ti.desc = .struct fs → ti.places.length = fs.size
  pstr : ∀ t ti, T t = some ti → ti.places ≠ [] → ∃ fs, ti.desc = .struct fs
  place : ∀ (t : TypeId) (ti : TI) (fs : Array Field) (i : Nat) (f : Field), T t = some ti → ti.desc = .struct fs → fs[i]? = some f →
    ∃ ft d, P.info? f.type = some ft ∧ P.underlying f.type = some d ∧ ti.places[i]? = some (f.offset, ft.size, isRow d)
  eqs : ∀ t ti, T t = some ti → ti.eqk ≠ [] → ∀ (xs ys : Array Value) (as bs : List AV) (μ : Img) (w : World), VRL μ as xs.toList → VRL μ bs ys.toList →
    conf ti.eqk as = true → conf ti.eqk bs = true →
    (Op.equal t (.agg xs) (.agg ys)).run P w = .ok (eqCells as bs) w ∧ P.eqGuardType P.depth t = false
  zv : ∀ t ti a, T t = some ti → ti.zv = some a → ∃ i z, P.info? t = some i ∧ i.zero = some z ∧ ∀ μ, VR μ a z

section
variable {P : Program} {T : TT} (hT : TAgree P T) {t : TypeId} {ti : TI} (ht : T t = some ti) (w : World)
include hT ht
theorem run_und : (underlying t).run P w = .ok ti.desc w := by
  simp [underlying, hT.und t ti ht]
theorem run_sz : (sizeOf t).run P w = .ok ti.size w := by
  obtain ⟨i, z, hi, hs, _⟩ := hT.info t ti ht
  simp [sizeOf, typeInfo, hi, hs]
theorem run_bytes : (typeInfo t).run P w = (typeInfo t).run P w ∧ ∃ i, (typeInfo t).run P w = .ok i w ∧ i.bytes = ti.bytes ∧ i.size = ti.size := by
  obtain ⟨i, z, hi, hs, hb, _⟩ := hT.info t ti ht
  exact ⟨rfl, i, by simp [typeInfo, hi], hb, hs⟩
theorem run_agg : (isAgg t).run P w = .ok ti.agg w := by
  rw [hT.agg t ti ht]
  simp only [isAgg, Sem.run_bind, run_und hT ht, Result.andThen_ok]
  cases ti.desc <;> simp [isRow]
theorem run_zero : ∃ z, (zeroValue t).run P w = .ok z w ∧ z.cells.size = ti.size ∧ ∀ μ, VRL μ ti.zero z.cells.toList := by
  obtain ⟨i, z, hi, hs, hb, hz, hzs, hzr⟩ := hT.info t ti ht
  exact ⟨z, by simp [zeroValue, typeInfo, hi, hz], hzs, hzr⟩
end

theorem add_at (cb o j : Nat) : (⟨cb, o, none⟩ : Addr).add j = ⟨cb, o + j, none⟩ := by
  unfold Addr.add
  split
  · rename_i h; subst h; rfl
  · rfl

theorem cell_of {w : World} {cb : Nat} {arr : Array Value} {el : TypeId} {fz : Nat × Nat} (h : w.heap[cb]? = some (.cells arr el fz)) (off : Nat) :
    w.cell? ⟨cb, off, none⟩ = arr[off]? := by
  simp [World.cell?, h]

theorem run_load_some {P : Program} {w : World} {a : Addr} {v : Value} (h : w.cell? a = some v) : (load a).run P w = .ok v w := by
  rw [run_load, h]

/-- What an abstract read finds lies in memory. -/
theorem HR.cells {P : Program} {B : BS P} {μ : Img} {h : AH} {H : Array Obj} (hr : HR B μ h H) {b : Nat} {cs : List AV} {k : BK} (hb : h.get b = some (.cells cs k))
    {cb δ N : Nat} (hm : μ b = some (cb, δ, N)) : ∃ arr el fz, H[cb]? = some (.cells arr el fz) ∧ CellsR μ cs arr δ := by
  obtain ⟨_, cb', δ', N', arr, el, fz, h1, h2, h3, _⟩ := hr.blk b _ hb
  rw [hm] at h1; cases h1
  exact ⟨arr, el, fz, h2, h3⟩

theorem loadn_sim {P : Program} {B : BS P} {μ : Img} {h : AH} {w : World} (hr : HR B μ h w.heap) {b o n : Nat} {cs : List AV}
    (hl : h.loadn b o n = some cs) {cb δ N : Nat} (hm : μ b = some (cb, δ, N)) :
    ∃ vs : List Value, vs.length = n ∧ (loadCells ⟨cb, δ + o, none⟩ n).run P w = .ok vs.toArray w ∧ VRL μ cs vs ∧ cs.length = n := by
  unfold AH.loadn at hl
  split at hl
  · rename_i xs k hb
    split at hl
    · rename_i hlen
      cases hl
      obtain ⟨arr, el, fz, harr, hc⟩ := hr.cells hb hm
      have hsz := hc.len
      refine ⟨(arr.toList.drop (δ + o)).take n, by simp; omega, ?_, ?_, by simp; omega⟩
      · have hn : ((arr.toList.drop (δ + o)).take n).length = n := by simp; omega
        have := run_loadCells_list (P := P) w ⟨cb, δ + o, none⟩ ((arr.toList.drop (δ + o)).take n) (fun j v hv => by
          rw [add_at, cell_of harr]
          rw [List.getElem?_take] at hv
          split at hv
          · rw [List.getElem?_drop] at hv; simpa using hv
          · cases hv)
        rw [hn] at this
        exact this
      · refine VRL.of_get (by simp; omega) fun j a hj => ?_
        rw [List.getElem?_take] at hj ⊢
        split at hj
        · rename_i hjn
          rw [List.getElem?_drop] at hj
          obtain ⟨v, hv, hvr⟩ := hc.rel _ _ hj
          rw [if_pos hjn, List.getElem?_drop]
          exact ⟨v, by rw [← Nat.add_assoc] at hv; simpa using hv, hvr⟩
        · cases hj
    · cases hl
  · cases hl

theorem loadc_sim {P : Program} {B : BS P} {μ : Img} {h : AH} {w : World} (hr : HR B μ h w.heap) {b o : Nat} {a : AV}
    (hl : h.loadc b o = some a) {cb δ N : Nat} (hm : μ b = some (cb, δ, N)) : ∃ v, w.cell? ⟨cb, δ + o, none⟩ = some v ∧ VR μ a v := by
  unfold AH.loadc at hl
  split at hl
  · rename_i xs k hb
    obtain ⟨arr, el, fz, harr, hc⟩ := hr.cells hb hm
    obtain ⟨v, hv, hvr⟩ := hc.rel _ _ hl
    exact ⟨v, by rw [cell_of harr]; exact hv, hvr⟩
  · cases hl

theorem frz_loadn {P : Program} {B : BS P} {μ : Img} {h : AH} {w : World} (hr : HR B μ h w.heap) {cb off n : Nat} {arr : Array Value} (hf : μ.fz cb = some arr) (hn : off + n ≤ arr.size) :
    (loadCells ⟨cb, off, none⟩ n).run P w = .ok ((arr.toList.drop off).take n).toArray w := by
  obtain ⟨⟨el, f, harr⟩, _⟩ := hr.frz cb arr hf
  have hl : ((arr.toList.drop off).take n).length = n := by simp; omega
  have := run_loadCells_list (P := P) w ⟨cb, off, none⟩ ((arr.toList.drop off).take n) (fun j v hv => by
    rw [add_at, cell_of harr]
    rw [List.getElem?_take] at hv
    split at hv
    · rw [List.getElem?_drop] at hv; simpa using hv
    · cases hv)
  rw [hl] at this
  exact this

theorem frz_loadc {P : Program} {B : BS P} {μ : Img} {h : AH} {w : World} (hr : HR B μ h w.heap) {cb off : Nat} {arr : Array Value} (hf : μ.fz cb = some arr) :
    w.cell? ⟨cb, off, none⟩ = arr[off]? := by
  obtain ⟨⟨el, f, harr⟩, _⟩ := hr.frz cb arr hf
  rw [cell_of harr]

theorem VRL.fz_drop {μ : Img} {cs : List AV} {arr : Array Value} {off n : Nat} (h : VRL μ cs ((arr.toList.drop off).take n)) (k : Nat) : VRL μ (cs.drop k) ((arr.toList.drop (off + k)).take (n - k)) := by
  have := h.drop k
  rwa [List.drop_take, List.drop_drop] at this

/-! Values out of related values. -/
section inv
variable {μ : Img} {v : Value}
theorem VR.bool_inv {b : Bool} (h : VR μ (.bool b) v) : v = .bool b := by rw [VR] at h; exact h
theorem VR.int_inv {k : IntKind} {n : Int} (h : VR μ (.int k n) v) : v = .int k n := by rw [VR] at h; exact h
theorem VR.str_inv {s : List UInt8} (h : VR μ (.str s) v) : v = .string ⟨⟨s⟩⟩ := by rw [VR] at h; exact h
theorem VR.nilp_inv (h : VR μ .nilp v) : v = .pointer none := by rw [VR] at h; exact h
theorem VR.ptr_inv {b o : Nat} (h : VR μ (.ptr b o) v) : ∃ cb δ N, μ b = some (cb, δ, N) ∧ v = .pointer (some ⟨cb, δ + o, none⟩) := by rw [VR] at h; exact h
theorem VR.nils_inv (h : VR μ .nils v) : v = .slice none 0 0 := by rw [VR] at h; exact h
theorem VR.sl_inv {b o len cap sz : Nat} {ex : Bool} (h : VR μ (.sl b o len cap sz ex) v) : ∃ cb δ N a c, μ b = some (cb, δ, N) ∧ v = .slice (some a) len c ∧
    (c = 0 ∨ (a = ⟨cb, δ + o, none⟩ ∧ δ + o + c * sz ≤ N)) ∧ len ≤ cap ∧ cap ≤ c ∧ (ex = true → c = cap) := by rw [VR] at h; exact h
theorem VR.nilm_inv (h : VR μ .nilm v) : v = .map none := by rw [VR] at h; exact h
theorem VR.mp_inv {b : Nat} (h : VR μ (.mp b) v) : ∃ cb δ N, μ b = some (cb, δ, N) ∧ v = .map (some cb) := by rw [VR] at h; exact h
theorem VR.nilf_inv (h : VR μ .nilf v) : v = .nilFunc := by rw [VR] at h; exact h
theorem VR.fn_inv {f : Nat} {first caps : List AV} (h : VR μ (.fn f first caps) v) : ∃ fs cs : Array Value, v = .func (.func f) fs cs ∧ VRL μ first fs.toList ∧ VRL μ caps cs.toList := by
  rw [VR] at h; exact h
theorem VR.agg_inv {cs : List AV} (h : VR μ (.agg cs) v) : ∃ vs : Array Value, v = .agg vs ∧ VRL μ cs vs.toList := by rw [VR] at h; exact h
theorem VR.tup_inv {cs : List AV} (h : VR μ (.tup cs) v) : ∃ vs : Array Value, v = .tuple vs ∧ VRL μ cs vs.toList := by rw [VR] at h; exact h
theorem VR.yld_inv {b : Nat} (h : VR μ (.yld b) v) : ∃ cb δ N, μ b = some (cb, δ, N) ∧ v = .func (.yield cb) #[] #[] := by rw [VR] at h; exact h
theorem VR.lst_inv {ex : Bool} {sz n : Nat} {cs : List AV} (h : VR μ (.lst ex sz n cs) v) : ∃ a c, v = .slice a n c ∧ n ≤ c ∧ (ex = true → c = n) ∧ cs.length = n * sz ∧ (a = none → n = 0 ∧ c = 0) ∧
    (0 < n → ∃ cb off arr, a = some ⟨cb, off, none⟩ ∧ μ.fz cb = some arr ∧ off + n * sz ≤ arr.size ∧ VRL μ cs ((arr.toList.drop off).take (n * sz))) := by rw [VR] at h; exact h
theorem VR.fp_inv {cs : List AV} (h : VR μ (.fp cs) v) : ∃ cb off arr, v = .pointer (some ⟨cb, off, none⟩) ∧ μ.fz cb = some arr ∧ off + cs.length ≤ arr.size ∧
    VRL μ cs ((arr.toList.drop off).take cs.length) := by rw [VR] at h; exact h
theorem VR.mk_bool (b : Bool) : VR μ (.bool b) (.bool b) := by rw [VR]
theorem VR.mk_int (k : IntKind) (n : Int) : VR μ (.int k n) (.int k n) := by rw [VR]
theorem VR.mk_str (s : List UInt8) : VR μ (.str s) (.string ⟨⟨s⟩⟩) := by rw [VR]
theorem VR.mk_bad (v : Value) : VR μ .bad v := by rw [VR]; trivial
theorem VR.mk_agg {cs : List AV} {vs : Array Value} (h : VRL μ cs vs.toList) : VR μ (.agg cs) (.agg vs) := by rw [VR]; exact ⟨vs, rfl, h⟩
theorem VR.mk_tup {cs : List AV} {vs : Array Value} (h : VRL μ cs vs.toList) : VR μ (.tup cs) (.tuple vs) := by rw [VR]; exact ⟨vs, rfl, h⟩
theorem VR.mk_ptr {b o cb δ N : Nat} (h : μ b = some (cb, δ, N)) {x : Nat} (hx : x = δ + o) : VR μ (.ptr b o) (.pointer (some ⟨cb, x, none⟩)) := by
  subst hx; rw [VR]; exact ⟨cb, δ, N, h, rfl⟩
end inv

theorem ofScalar_sim (μ : Img) (v : Value) : VR μ (ofScalar v) v := by
  unfold ofScalar
  split <;> first
    | exact VR.mk_bool _
    | exact VR.mk_int _ _
    | exact VR.mk_str _
    | (rw [VR]; done)
    | (rw [VR]; trivial)

theorem ofConst_sim (μ : Img) (v : Value) : VR μ (ofConst v) v := by
  unfold ofConst
  split
  · rename_i cs
    refine VR.mk_agg ?_
    have := VRL.map (μ := μ) (f := ofScalar) (g := id) (l := cs.toList) (fun x _ => ofScalar_sim μ x)
    simpa using this
  · exact ofScalar_sim μ v

def ER (μ : Img) (e : Env) (a : Act) : Prop := ∀ t, VR μ (e t) (a.tmps.getD t undef)

theorem ev_sim {μ : Img} {e : Env} {a : Act} (he : ER μ e a) (x : Operand) : VR μ (ev e x) (a.eval x) := by
  cases x with
  | tmp t => exact he t
  | const v => exact ofConst_sim μ v
  | global g => exact VR.mk_bad _
  | func f => show VR μ (.fn f [] []) _; rw [VR]; exact ⟨#[], #[], rfl, VRL.nil, VRL.nil⟩

theorem evs_sim {μ : Img} {e : Env} {a : Act} (he : ER μ e a) (l : List Operand) : VRL μ (l.map (ev e)) (l.map a.eval) :=
  VRL.map fun x _ => ev_sim he x

/-! ### Loads, fields, places -/
theorem load_sim {P : Program} {T : TT} (hT : TAgree P T) {B : BS P} {μ : Img} {h : AH} {w : World} (hr : HR B μ h w.heap) {t : TypeId} {x v : AV} {xv : Value}
    (hx : VR μ x xv) (hl : aLoad T t x h = some v) : ∃ v', (Instr.loadAt t xv).run P w = .ok v' w ∧ VR μ v v' := by
  unfold aLoad at hl
  split at hl
  · rename_i b o
    obtain ⟨cb, δ, N, hm, rfl⟩ := hx.ptr_inv
    split at hl
    · rename_i ti ht
      simp only [Instr.loadAt, Instr.sureAddr, Sem.run_bind, Sem.run_pure, Result.andThen_ok, loadVar, run_agg hT ht]
      cases hag : ti.agg with
      | true =>
        simp only [hag] at hl
        cases hl' : h.loadn b o ti.size with
        | none => simp [hl'] at hl
        | some cs =>
          simp [hl'] at hl; subst hl
          obtain ⟨vs, hlen, hrun, hvr, _⟩ := loadn_sim (P := P) hr hl' hm
          refine ⟨.agg vs.toArray, ?_, VR.mk_agg (by simpa using hvr)⟩
          simp [run_sz hT ht, hrun]
      | false =>
        simp only [hag] at hl
        obtain ⟨v', hv', hvr⟩ := loadc_sim hr hl hm
        exact ⟨v', by simp [run_load_some hv'], hvr⟩
    · cases hl
  · rename_i cs
    obtain ⟨cb, off, arr, rfl, hf, hle, hvr⟩ := hx.fp_inv
    split at hl
    · rename_i ti ht
      simp only [Instr.loadAt, Instr.sureAddr, Sem.run_bind, Sem.run_pure, Result.andThen_ok, loadVar, run_agg hT ht]
      cases hag : ti.agg with
      | true =>
        simp only [hag] at hl
        split at hl
        · rename_i hsz
          cases hl
          have hrun := frz_loadn (P := P) hr hf (n := ti.size) (off := off) (by omega)
          refine ⟨.agg ((arr.toList.drop off).take ti.size).toArray, ?_, VR.mk_agg ?_⟩
          · simp [run_sz hT ht, hrun]
          · have := hvr.take ti.size
            rw [List.take_take, Nat.min_eq_left hsz] at this
            simpa using this
        · cases hl
      | false =>
        simp only [hag] at hl
        obtain ⟨v', hv', hvr'⟩ := hvr.get hl
        have hlt : 0 < cs.length := (List.getElem?_eq_some_iff.1 hl).1
        have hv2 : arr[off]? = some v' := by
          rw [List.getElem?_take, if_pos hlt, List.getElem?_drop] at hv'
          simpa using hv'
        exact ⟨v', by simp [run_load_some ((frz_loadc hr hf).trans hv2)], hvr'⟩
    · cases hl
  · cases hl

theorem part_sim {P : Program} {μ : Img} {cs : List AV} {vs : Array Value} (hvs : VRL μ cs vs.toList) {off size : Nat} {t : TypeId} {i : TypeInfo} {d : TypeDesc} {v : AV}
    (hi : P.info? t = some i) (hs : i.size = size) (hd : P.underlying t = some d) (hp : aPart off size (isRow d) cs = some v) (w : World) :
    ∃ v', (part t vs off).run P w = .ok v' w ∧ VR μ v v' := by
  have hag : (isAgg t).run P w = .ok (isRow d) w := by
    simp only [isAgg, underlying, Sem.run_bind, run_program, Result.andThen_ok, hd]
    cases d <;> simp [isRow]
  have hsz : (sizeOf t).run P w = .ok size w := by simp [sizeOf, typeInfo, hi, hs]
  unfold part
  simp only [Sem.run_bind, hag, Result.andThen_ok]
  cases hdd : isRow d with
  | true =>
    simp only [hdd, aPart, Option.some.injEq] at hp; subst hp
    refine ⟨.agg (vs.extract off (off + size)), by simp [hsz], VR.mk_agg ?_⟩
    have := (hvs.drop off).take size
    have e : (vs.extract off (off + size)).toList = (vs.toList.drop off).take size := by
      rw [Array.toList_extract, List.extract_eq_take_drop]; simp
    rw [e]; exact this
  | false =>
    simp only [hdd, aPart] at hp
    obtain ⟨v', hv', hvr⟩ := hvs.get hp
    have hv2 : vs[off]? = some v' := by simpa using hv'
    exact ⟨v', by simp [hv2], hvr⟩

theorem field_sim {P : Program} {T : TT} (hT : TAgree P T) {μ : Img} {t : TypeId} {x v : AV} {xv : Value} {f : Nat} (w : World)
    (hx : VR μ x xv) (hl : aField T t x f = some v) : ∃ v', (Instr.field t xv f).run P w = .ok v' w ∧ VR μ v v' := by
  unfold aField at hl
  split at hl
  · rename_i ti cs ht
    obtain ⟨vs, rfl, hvs⟩ := hx.agg_inv
    split at hl
    · rename_i off size agg hp
      unfold Instr.field
      simp only [Sem.run_bind, run_und hT ht, Result.andThen_ok]
      obtain ⟨fs, hd⟩ := hT.pstr t ti ht (by intro e; rw [e] at hp; simp at hp)
      · have hlt : f < fs.size := by
          rw [← hT.plen t ti fs ht hd]
          exact (List.getElem?_eq_some_iff.1 hp).1
        obtain ⟨ft, d, h1, h2, h3⟩ := hT.place t ti fs f fs[f] ht hd (by simp [hlt])
        rw [hp] at h3; cases h3
        obtain ⟨v', hv', hvr⟩ := part_sim (P := P) hvs h1 rfl h2 hl w
        exact ⟨v', by simp [hd, hlt, asAgg, hv'], hvr⟩
    · cases hl
  · cases hl

end Go.AM
