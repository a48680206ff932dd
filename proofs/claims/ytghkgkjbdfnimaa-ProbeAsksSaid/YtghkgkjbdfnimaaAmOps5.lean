/- Stores, conversions, make, append, copy, clear. Own work. -/
import Derived.Test.YtghkgkjbdfnimaaAmOps4
import Derived.Laws.IdiomStrings
import Derived.IntWalk
namespace Go.AM
open Go Go.RowKit
set_option linter.unusedVariables false
set_option linter.unusedSimpArgs false
set_option linter.unusedSectionVars false

theorem run_storeCells_any {P : Program} (cb o : Nat) (el : TypeId) (fz : Nat × Nat) : ∀ (vs : List Value) (i : Nat) (arr : Array Value) (w : World), w.heap[cb]? = some (.cells arr el fz) →
    o + i + vs.length ≤ arr.size → (∀ off, off < arr.size → ¬ (fz.1 ≤ off ∧ off < fz.2)) → (∀ v ∈ vs, v.oneCell' = true) →
    (storeCells ⟨cb, o, none⟩ vs i).run P w = .ok () { w with heap := w.heap.setIfInBounds cb (.cells (arr.toList.take (o + i) ++ vs ++ arr.toList.drop (o + i + vs.length)).toArray el fz) }
  | [], i, arr, w, hg, hl, _, _ => by
    have hlt : cb < w.heap.size := (Array.getElem?_eq_some_iff.1 hg).1
    have hv : w.heap[cb] = .cells arr el fz := (Array.getElem?_eq_some_iff.1 hg).2
    simp only [storeCells, Sem.run_pure, List.append_nil, List.length_nil, Nat.add_zero, List.take_append_drop, Array.toArray_toList]
    congr 1
    have : w.heap.setIfInBounds cb (.cells arr el fz) = w.heap := by
      rw [← hv]; simp [Array.setIfInBounds, hlt]
    rw [this]
  | v :: r, i, arr, w, hg, hl, hz, h1 => by
    have hlt : cb < w.heap.size := (Array.getElem?_eq_some_iff.1 hg).1
    simp only [List.length_cons] at hl
    have hoi : o + i < arr.size := by omega
    have hcell : w.cell? ⟨cb, o + i, none⟩ = some arr[o + i] := by rw [cell_of hg]; simp [hoi]
    have hfr : w.frozen? ⟨cb, o + i, none⟩ = false := by
      have := hz _ hoi
      simp only [World.frozen?, hg]
      simp; intro h; by_cases h2 : o + i < fz.2
      · exact absurd ⟨h, h2⟩ this
      · omega
    have hset : w.setCell ⟨cb, o + i, none⟩ v = { w with heap := w.heap.setIfInBounds cb (.cells (arr.setIfInBounds (o + i) v) el fz) } := by
      unfold World.setCell
      congr 1
      apply Array.ext
      · simp
      · intro k hk1 hk2
        have hk : k < w.heap.size := by simpa using hk1
        rw [Array.getElem_modify]
        by_cases e : cb = k
        · subst e
          have hv : w.heap[cb] = .cells arr el fz := (Array.getElem?_eq_some_iff.1 hg).2
          simp [hv]
        · simp [e, Array.getElem_setIfInBounds, hk]
    simp only [storeCells, Sem.run_bind, add_at, run_store P w _ v .plain (h1 v (by simp)), hcell, hfr, Result.andThen_ok]
    simp only [Bool.false_eq_true, if_false, Result.andThen_ok, hset]
    rw [run_storeCells_any cb o el fz r (i + 1) (arr.setIfInBounds (o + i) v) _ (by simp [hlt]) (by simp; omega) (by simpa using hz) (fun u hu => h1 u (by simp [hu]))]
    congr 1
    have hcat : (arr.setIfInBounds (o + i) v).toList.take (o + (i + 1)) ++ r ++ (arr.setIfInBounds (o + i) v).toList.drop (o + (i + 1) + r.length) =
        arr.toList.take (o + i) ++ (v :: r) ++ arr.toList.drop (o + i + (v :: r).length) := by
      rw [Array.toList_setIfInBounds]
      have h1 : (arr.toList.set (o + i) v).take (o + (i + 1)) = arr.toList.take (o + i) ++ [v] := by
        rw [← Nat.add_assoc, List.take_succ_eq_append_getElem (by simpa using hoi)]
        simp [List.take_set_of_le]
      have h2 : (arr.toList.set (o + i) v).drop (o + (i + 1) + r.length) = arr.toList.drop (o + i + (r.length + 1)) := by
        rw [List.drop_set_of_lt (by omega)]
        congr 1; omega
      rw [h1, h2]; simp
    rw [hcat]
    simp

theorem splice_cellsR {μ : Img} {cs : List AV} {arr : Array Value} {δ : Nat} (hc : CellsR μ cs arr δ) {o : Nat} {vs : List AV} {us : List Value} (hv : VRL μ vs us) (hl : o + vs.length ≤ cs.length) :
    CellsR μ (AH.splice cs o vs) (arr.toList.take (δ + o) ++ us ++ arr.toList.drop (δ + o + us.length)).toArray δ := by
  have hlen := hv.length
  have hcl := hc.len
  refine ⟨by simp [AH.splice]; omega, fun j a hj => ?_⟩
  unfold AH.splice at hj
  simp only [List.getElem?_toArray]
  by_cases h1 : j < o
  · rw [List.append_assoc, List.getElem?_append_left (by simp; omega), List.getElem?_take, if_pos h1] at hj
    obtain ⟨v, hv', hr⟩ := hc.rel j a hj
    refine ⟨v, ?_, hr⟩
    rw [List.append_assoc, List.getElem?_append_left (by simp; omega), List.getElem?_take, if_pos (by omega)]
    simpa using hv'
  · by_cases h2 : j < o + vs.length
    · rw [List.append_assoc, List.getElem?_append_right (by simp; omega), List.getElem?_append_left (by simp; omega)] at hj
      simp only [List.length_take] at hj
      rw [Nat.min_eq_left (by omega)] at hj
      obtain ⟨v, hv', hr⟩ := hv.get hj
      refine ⟨v, ?_, hr⟩
      rw [List.append_assoc, List.getElem?_append_right (by simp; omega), List.getElem?_append_left (by simp; omega)]
      simp only [List.length_take, Array.length_toList]
      rw [Nat.min_eq_left (by omega), show δ + j - (δ + o) = j - o by omega]
      exact hv'
    · rw [List.append_assoc, List.getElem?_append_right (by simp; omega), List.getElem?_append_right (by simp; omega), List.getElem?_drop] at hj
      simp only [List.length_take] at hj
      rw [Nat.min_eq_left (by omega)] at hj
      rw [show o + vs.length + (j - o - vs.length) = j by omega] at hj
      obtain ⟨v, hv', hr⟩ := hc.rel j a hj
      refine ⟨v, ?_, hr⟩
      rw [List.append_assoc, List.getElem?_append_right (by simp; omega), List.getElem?_append_right (by simp; omega), List.getElem?_drop]
      simp only [List.length_take, Array.length_toList]
      rw [Nat.min_eq_left (by omega), show δ + o + us.length + (δ + j - (δ + o) - us.length) = δ + j by omega]
      simpa using hv'

section
variable {P : Program}
set_option maxHeartbeats 1000000 in
theorem run_app_room {w w' : World} {t xt e ty : TypeId} {xd : TypeDesc} {i : TypeInfo} {xv : Value} {a : Addr} {sLen sCap n : Nat} {news : Array Value}
    (ht : P.underlying t = some (.slice e)) (hxu : P.underlying xt = some xd) (hni : (∃ u, xd = .slice u) ∨ xd = .string) (hi : P.info? e = some i)
    (hlen : (Builtin.lenOf xv).run P w = .ok n w) (hf : (Builtin.firstCells i.size n xv).run P w = .ok news w) (hroom : sLen + n ≤ sCap)
    (hst : (storeCells (a.add (sLen * i.size)) news.toList).run P w = .ok () w') :
    (Builtin.append_ #[t, xt] ty #[.slice (some a) sLen sCap, xv]).run P w = .ok (.slice (some a) (sLen + n) sCap) w' := by
  have hu : (underlying t).run P w = .ok (.slice e) w := by simp [underlying, ht]
  have hux : (underlying xt).run P w = .ok xd w := by simp [underlying, hxu]
  clear hxu
  have hz : (sizeOf e).run P w = .ok i.size w := by simp [sizeOf, typeInfo, hi]
  rcases hni with ⟨u, rfl⟩ | rfl <;> simp [Builtin.append_, hu, hux, hz, hlen, hroom, hf, hst]

set_option maxHeartbeats 1000000 in
theorem run_app_none {w : World} {t xt e ty : TypeId} {xd : TypeDesc} {i : TypeInfo} {xv : Value} {news : Array Value}
    (ht : P.underlying t = some (.slice e)) (hxu : P.underlying xt = some xd) (hni : (∃ u, xd = .slice u) ∨ xd = .string) (hi : P.info? e = some i)
    (hlen : (Builtin.lenOf xv).run P w = .ok 0 w) (hf : (Builtin.firstCells i.size 0 xv).run P w = .ok news w) :
    (Builtin.append_ #[t, xt] ty #[.slice none 0 0, xv]).run P w = .ok (.slice none 0 0) w := by
  have hu : (underlying t).run P w = .ok (.slice e) w := by simp [underlying, ht]
  have hux : (underlying xt).run P w = .ok xd w := by simp [underlying, hxu]
  clear hxu
  have hz : (sizeOf e).run P w = .ok i.size w := by simp [sizeOf, typeInfo, hi]
  rcases hni with ⟨u, rfl⟩ | rfl <;> simp [Builtin.append_, hu, hux, hz, hlen, hf]

set_option maxHeartbeats 1000000 in
theorem run_app_grow {w : World} {t xt e ty : TypeId} {xd : TypeDesc} {i : TypeInfo} {z : Value} {xv : Value} {base : Option Addr} {sLen sCap n : Nat} {olds news : Array Value}
    (ht : P.underlying t = some (.slice e)) (hxu : P.underlying xt = some xd) (hni : (∃ u, xd = .slice u) ∨ xd = .string) (hi : P.info? e = some i) (hz : i.zero = some z)
    (hlen : (Builtin.lenOf xv).run P w = .ok n w) (hf : (Builtin.firstCells i.size n xv).run P w.drew = .ok news w.drew) (hfo : (Builtin.firstCells i.size sLen (.slice base sLen sCap)).run P w.drew = .ok olds w.drew)
    (hg : sCap < sLen + n) (h63 : ((sLen + n : Nat) : Int) ≤ 9223372036854775807) (hfit : Builtin.nextslicecap (sLen + n) sCap * i.bytes ≤ 281474976710656) :
    (Builtin.append_ #[t, xt] ty #[.slice base sLen sCap, xv]).run P w =
      .ok (.slice (some ⟨w.heap.size, 0, none⟩) (sLen + n) (grownCap w (sLen + n) sCap e))
        (w.drew.alloc (.cells (olds ++ news ++ Builtin.zeroCells z.cells (grownCap w (sLen + n) sCap e - (sLen + n))) e)) := by
  have hu : (underlying t).run P w = .ok (.slice e) w := by simp [underlying, ht]
  have hux : (underlying xt).run P w = .ok xd w := by simp [underlying, hxu]
  clear hxu
  have hsz : ∀ w, (sizeOf e).run P w = .ok i.size w := by intro w; simp [sizeOf, typeInfo, hi]
  have hti : ∀ w, (typeInfo e).run P w = .ok i w := by intro w; simp [typeInfo, hi]
  have hzv : ∀ w, (zeroValue e).run P w = .ok z w := by intro w; simp [zeroValue, typeInfo, hi, hz]
  have hn : ¬ (sLen + n ≤ sCap) := by omega
  have h63' : ¬ (9223372036854775807 < ((sLen : Int) + (n : Int))) := by omega
  have h48' : ¬ (281474976710656 < Builtin.nextslicecap (sLen + n) sCap * i.bytes) := by omega
  rcases hni with ⟨u, rfl⟩ | rfl <;> simp [Builtin.append_, hu, hux, hsz, hlen, hn, h63', hti, h48', Question.forced, hfo, hf, newRow, grownCap, hzv]

theorem firstCells_drew {P : Program} {w : World} {size n : Nat} {x : Value} {cells : Array Value} (h : (Builtin.firstCells size n x).run P w = .ok cells w) :
    (Builtin.firstCells size n x).run P w.drew = .ok cells w.drew := by
  have key : ∀ (a : Addr) (m i : Nat) (acc cells : Array Value), (loadCellsFrom a i m acc).run P w = .ok cells w → (loadCellsFrom a i m acc).run P w.drew = .ok cells w.drew := by
    intro a m
    induction m with
    | zero => intro i acc cells h; simp only [loadCellsFrom, Sem.run_pure, Result.ok.injEq] at h ⊢; exact ⟨h.1, trivial⟩
    | succ m ih =>
      intro i acc cells h
      simp only [loadCellsFrom, Sem.run_bind] at h ⊢
      cases hc : w.cell? (a.add i) with
      | some v =>
        have hc' : w.drew.cell? (a.add i) = some v := hc
        rw [run_load_some hc] at h
        rw [run_load_some hc']
        exact ih _ _ _ h
      | none =>
        rw [run_load, hc] at h
        have hc' : w.drew.cell? (a.add i) = none := hc
        rw [run_load, hc']
        have hfar : w.drew.farLoad P (a.add i) (Mode.plain == Mode.atomic) = w.farLoad P (a.add i) (Mode.plain == Mode.atomic) := rfl
        rw [hfar]
        cases hfl : w.farLoad P (a.add i) (Mode.plain == Mode.atomic) with
        | ok x => rw [hfl] at h; exact ih _ _ _ h
        | error x => rw [hfl] at h; simp at h
  cases x with
  | slice a l c =>
    cases a with
    | none => simp only [Builtin.firstCells, Sem.run_pure, Result.ok.injEq] at h ⊢; exact ⟨h.1, trivial⟩
    | some a => exact key a _ 0 #[] cells h
  | string s => simp only [Builtin.firstCells, Sem.run_pure, Result.ok.injEq] at h ⊢; exact ⟨h.1, trivial⟩
  | _ => simp [Builtin.firstCells] at h
end

theorem loadn_sim' {P : Program} {B : BS P} {μ : Img} {h : AH} {w : World} (hr : HR B μ h w.heap) {b o n : Nat} {cs : List AV}
    (hl : h.loadn b o n = some cs) {cb δ N : Nat} (hm : μ b = some (cb, δ, N)) :
    ∃ vs : List Value, vs.length = n ∧ (∀ m, m ≤ n → (loadCells ⟨cb, δ + o, none⟩ m).run P w = .ok (vs.take m).toArray w) ∧ VRL μ cs vs ∧ cs.length = n := by
  unfold AH.loadn at hl
  split at hl
  · rename_i xs k hb
    split at hl
    · rename_i hlen
      cases hl
      obtain ⟨arr, el, fz, harr, hc⟩ := hr.cells hb hm
      have hsz := hc.len
      refine ⟨(arr.toList.drop (δ + o)).take n, by simp; omega, ?_, ?_, by simp; omega⟩
      · intro m hmn
        rw [List.take_take, Nat.min_eq_left hmn]
        have hn : ((arr.toList.drop (δ + o)).take m).length = m := by simp; omega
        have := run_loadCells_list (P := P) w ⟨cb, δ + o, none⟩ ((arr.toList.drop (δ + o)).take m) (fun j v hv => by
          rw [add_at, cell_of harr]
          rw [List.getElem?_take] at hv
          split at hv
          · rw [List.getElem?_drop] at hv; simpa using hv
          · cases hv)
        rw [hn] at this
        exact this
      · refine VRL.of_get (by simp; omega) fun j a hj => ?_
        rw [List.getElem?_take] at hj ⊢
        split at hj
        · rename_i hjn
          rw [List.getElem?_drop] at hj
          obtain ⟨v, hv, hvr⟩ := hc.rel _ _ hj
          rw [if_pos hjn, List.getElem?_drop]
          exact ⟨v, by rw [← Nat.add_assoc] at hv; simpa using hv, hvr⟩
        · cases hj
    · cases hl
  · cases hl

section
variable {P : Program} {T : TT} (hT : TAgree P T) {μ : Img} (w : World) {B : BS P} {h : AH} (hr : HR B μ h w.heap)
include hT hr

/-- Cells of a block of the call's own are written. -/
theorem storen_sim {b o : Nat} {vs : List AV} {us : List Value} {h' : AH} (hl : h.storen b o vs = some h') (hv : VRL μ vs us) {cb δ N : Nat} (hm : μ b = some (cb, δ, N)) :
    ∃ w', (storeCells ⟨cb, δ + o, none⟩ us).run P w = .ok () w' ∧ HR B μ h' w'.heap ∧ BelowS B w w' := by
  unfold AH.storen at hl
  split at hl
  · rename_i cs k hb
    split at hl
    · cases hl
    · rename_i hk
      split at hl
      · rename_i hc
        cases hl
        obtain ⟨_, cb', δ', N', arr, el, fz, h1, h2, h3, h4, h5⟩ := hr.blk b _ hb
        rw [hm] at h1; cases h1
        have hk' : k ≠ .ro := by intro e; exact hk e
        obtain ⟨hb1, hb2, hb3, hb4⟩ := h5 hk'
        have hlen := hv.length
        have hcl := h3.len
        have hones : ∀ u ∈ us, u.oneCell' = true := by
          intro u hu
          obtain ⟨j, hj, he⟩ := List.getElem_of_mem hu
          have hjv : j < vs.length := by omega
          obtain ⟨u', hu', hr'⟩ := hv.get (List.getElem?_eq_getElem hjv)
          rw [List.getElem?_eq_getElem hj] at hu'
          cases hu'; subst he
          exact hr'.one (List.all_eq_true.1 hc.2 _ (List.getElem_mem hjv))
        have hrun := run_storeCells_any (P := P) cb (δ + o) el fz us 0 arr w h2 (by omega) (by rw [hb2]; exact hb3) hones
        simp only [Nat.add_zero] at hrun
        refine ⟨_, hrun, ?_, below_set w cb _ hb1⟩
        have hlt : cb < w.heap.size := (Array.getElem?_eq_some_iff.1 h2).1
        refine hr.write hb (by cases k <;> simp_all [AB.live]) hm hb1 ?_
        refine ⟨cb, δ, N, (arr.toList.take (δ + o) ++ us ++ arr.toList.drop (δ + o + us.length)).toArray, el, fz, hm, by simp [hlt], ?_, fun e => absurd e hk', fun _ => ⟨hb1, ?_, hb3, hb4⟩⟩
        · exact splice_cellsR h3 hv hc.1
        · simp; omega
      · cases hl
  · cases hl

theorem store_sim {t : TypeId} {x y : AV} {xv yv : Value} {h' : AH} (hx : VR μ x xv) (hy : VR μ y yv) (hl : aStore T t x y h = some h') :
    ∃ w', (Instr.storeAt t xv yv).run P w = .ok () w' ∧ HR B μ h' w'.heap ∧ BelowS B w w' := by
  unfold aStore at hl
  split at hl
  · rename_i b o
    obtain ⟨cb, δ, N, hm, rfl⟩ := hx.ptr_inv
    split at hl
    · rename_i ti ht
      split at hl
      · rename_i cs hc
        split at hl
        · rename_i hsz
          have hcv := hy.cells hc
          have hlen := hcv.length
          obtain ⟨w', hrun, hr', hB⟩ := storen_sim hT w hr hl hcv hm
          refine ⟨w', ?_, hr', hB⟩
          have hne : yv.cells.size = ti.size := by simp at hlen; omega
          simp [Instr.storeAt, Instr.sureAddr, storeVar, run_sz hT ht, hne, hrun]
        · cases hl
      · cases hl
    · cases hl
  · cases hl

omit hT hr in
theorem bytes_map (s : List UInt8) : VRL μ (ofBytes s) (s.map fun c => (.int .u8 c.toNat : Value)) :=
  VRL.map fun x _ => VR.mk_int _ _

omit hT hr in
theorem bytesOf_inv : ∀ {cs : List AV} {s : List UInt8} {vs : List Value}, bytesOf cs = some s → VRL μ cs vs → ∃ ns : List Int, vs = ns.map (fun n => (.int .u8 n : Value)) ∧ s = ns.map fun n => UInt8.ofNat n.toNat
  | [], s, vs, hb, hv => by
    simp [bytesOf] at hb; subst hb
    exact ⟨[], by rw [hv.nil_inv]; rfl, rfl⟩
  | a :: cs, s, vs, hb, hv => by
    obtain ⟨v, rest, rfl, hva, hr⟩ := hv.cons_inv
    cases a with
    | int k n =>
      cases k <;> simp [bytesOf] at hb
      obtain ⟨s', hs', rfl⟩ := hb
      obtain ⟨ns, rfl, rfl⟩ := bytesOf_inv hs' hr
      have := hva.int_inv; subst this
      exact ⟨n :: ns, rfl, rfl⟩
    | _ => simp [bytesOf] at hb

omit hT hr in
theorem u8_inv {e : TypeId} (hu : isU8 T e = true) (hT : TAgree P T) : P.underlying e = some (.int .u8) ∧ ∃ te, T e = some te ∧ te.size = 1 := by
  unfold isU8 at hu
  split at hu
  · rename_i te hte
    split at hu
    · rename_i hd
      exact ⟨by rw [hT.und e te hte, hd], te, hte, Nat.eq_of_beq_eq_true hu⟩
    · cases hu
  · cases hu

theorem convert_sim {src dst : TypeId} {x v : AV} {xv : Value} {h' : AH} (hx : VR μ x xv) (hl : aConv T src dst x h = some (v, h')) :
    ∃ v' w', (convert src dst xv).run P w = .ok v' w' ∧ Grows B μ w v h' v' w' := by
  unfold aConv at hl
  split at hl
  · rename_i ts td hs hd
    have hus := run_und hT hs w
    have hud := run_und hT hd w
    split at hl
    · rename_i k k' n hde
      cases hl
      have := hx.int_inv; subst this
      refine ⟨.int k (k.wrap n), w, ?_, μ, Img.le.refl μ, VR.mk_int _ _, hr, .refl _ _⟩
      simp only [convert, Sem.run_bind, hus, hud, Result.andThen_ok, hde]
      rfl
    · rename_i s hde
      have := hx.str_inv; subst this
      split at hl
      · cases hl
      · rename_i hns
        cases hl
        refine ⟨.string ⟨⟨s⟩⟩, w, ?_, μ, Img.le.refl μ, VR.mk_str _, hr, .refl _ _⟩
        simp only [convert, Sem.run_bind, hus, hud, Result.andThen_ok, hde]
        rfl
    · rename_i e s hde
      have := hx.str_inv; subst this
      split at hl
      · rename_i hse
        split at hl
        · rename_i hu8
          split at hl
          · rename_i hlt
            cases hl
            obtain ⟨hue, te, hte, hsz⟩ := u8_inv hu8 hT
            have hrun := run_bytes_of_string (P := P) w src dst e ⟨⟨s⟩⟩ (by rw [hT.und src ts hs, hse]) (by rw [hT.und dst td hd, hde]) hue
            have hsl : (⟨⟨s⟩⟩ : ByteArray).size = s.length := rfl
            have hcap : s.length ≤ grownCap w (⟨⟨s⟩⟩ : ByteArray).size 0 e := by simp [grownCap, Question.cut, hsl]
            generalize grownCap w (⟨⟨s⟩⟩ : ByteArray).size 0 e = cap at *
            have hsza : (bytesRow ⟨⟨s⟩⟩ cap).size = cap := by simp [bytesRow, hsl]; omega
            refine ⟨_, _, hrun, μ.upd h.next (w.heap.size, 0, (bytesRow ⟨⟨s⟩⟩ cap).size), Img.le_upd hr.fresh, ?_, ?_, ?_⟩
            · rw [VR]
              refine ⟨w.heap.size, 0, _, _, cap, upd_self _ _ _, by rw [hsl], .inr ⟨by simp, by omega⟩, Nat.le_refl _, hcap, by simp⟩
            · refine new_sim hr (k := .byt) ?_ (by simp) (by intro off ho; simp; omega) (by simp)
              have := CellsR.of_prefix (bytes_map (μ := μ) s) (List.replicate (cap - s.length) (.int .u8 0))
              have e2 : ((s.map fun c : UInt8 => (Value.int .u8 c.toNat)) ++ List.replicate (cap - s.length) (Value.int .u8 0)).toArray = bytesRow ⟨⟨s⟩⟩ cap := by
                apply Array.ext'; simp [bytesRow, hsl]
              rw [e2] at this; exact this
            · exact ⟨rfl, rfl, rfl, by show w.heap.size ≤ (w.heap.push _).size; simp, fun k hk => by
                have : k < w.heap.size := hr.base k hk
                show (w.heap.push _)[k]? = _
                rw [Array.getElem?_push_lt this]; simp [this]⟩
          · cases hl
        · cases hl
      · cases hl
    · rename_i hde
      have := hx.nils_inv; subst this
      split at hl
      · rename_i e hse
        split at hl
        · rename_i hu8
          cases hl
          obtain ⟨hue, te, hte, hsz⟩ := u8_inv hu8 hT
          have hue' : (underlying e).run P w = .ok (.int .u8) w := by simp [underlying, hue]
          refine ⟨.string ⟨⟨[]⟩⟩, w, ?_, μ, Img.le.refl μ, VR.mk_str _, hr, .refl _ _⟩
          simp only [convert, Sem.run_bind, hus, hud, Result.andThen_ok, hde, hse, hue']
          rfl
        · cases hl
      · cases hl
    · rename_i b o len cap sz ex hde
      obtain ⟨cb, δ, N, a, c, hm, rfl, hor, hlc, hcc, hex⟩ := hx.sl_inv
      split at hl
      · rename_i e hse
        split at hl
        · rename_i hu8
          split at hl
          · rename_i cs hcs
            cases hb : bytesOf cs with
            | none => simp [hb] at hl
            | some s =>
              simp [hb] at hl
              obtain ⟨rfl, rfl⟩ := hl
              obtain ⟨hue, te, hte, hsz⟩ := u8_inv hu8 hT
              have hue' : (underlying e).run P w = .ok (.int .u8) w := by simp [underlying, hue]
              obtain ⟨vs, hvl, hvrun, hvr, hcl⟩ := loadn_sim (P := P) hr hcs hm
              obtain ⟨ns, rfl, rfl⟩ := bytesOf_inv hb hvr
              have hload : (loadCells a len).run P w = .ok (ns.map fun n => (.int .u8 n : Value)).toArray w := by
                rcases hor with h0 | ⟨ha, _⟩
                · have : len = 0 := by omega
                  subst this
                  have : ns = [] := by simpa using hvl
                  subst this
                  simp [loadCells, loadCellsFrom]
                · rw [ha]; exact hvrun
              refine ⟨.string ⟨⟨ns.map fun n => UInt8.ofNat n.toNat⟩⟩, w, ?_, μ, Img.le.refl μ, VR.mk_str _, hr, .refl _ _⟩
              simp only [convert, Sem.run_bind, hus, hud, Result.andThen_ok, hde, hse, hue']
              rw [run_bytesToString (P := P) w a len c ns hload]
              have hfold : ∀ (l : List Int) (r : ByteArray), l.foldl (fun r n => r.push (UInt8.ofNat n.toNat)) r = ⟨r.data ++ (l.map fun n => UInt8.ofNat n.toNat).toArray⟩ := by
                intro l
                induction l with
                | nil => intro r; simp
                | cons x l ih => intro r; rw [List.foldl_cons, ih]; simp [ByteArray.push]
              rw [hfold]
              have : (⟨ByteArray.empty.data ++ (ns.map fun n => UInt8.ofNat n.toNat).toArray⟩ : ByteArray) = ⟨⟨ns.map fun n => UInt8.ofNat n.toNat⟩⟩ := by
                simp [ByteArray.empty, ByteArray.emptyWithCapacity]; rfl
              rw [this]
          · cases hl
        · cases hl
      · cases hl
    · rename_i ex sz n cs hde
      obtain ⟨a, c, rfl, hnc, hex, hcs, ha0, hd2⟩ := hx.lst_inv
      split at hl
      · rename_i e hse
        split at hl
        · rename_i hu8
          split at hl
          · rename_i hsz1
            subst hsz1
            cases hb : bytesOf cs with
            | none => simp [hb] at hl
            | some s =>
              simp [hb] at hl
              obtain ⟨rfl, rfl⟩ := hl
              obtain ⟨hue, te, hte, hsz⟩ := u8_inv hu8 hT
              have hue' : (underlying e).run P w = .ok (.int .u8) w := by simp [underlying, hue]
              have hfold : ∀ (l : List Int) (r : ByteArray), l.foldl (fun r n => r.push (UInt8.ofNat n.toNat)) r = ⟨r.data ++ (l.map fun n => UInt8.ofNat n.toNat).toArray⟩ := by
                intro l
                induction l with
                | nil => intro r; simp
                | cons x l ih => intro r; rw [List.foldl_cons, ih]; simp [ByteArray.push]
              cases a with
              | none =>
                obtain ⟨rfl, rfl⟩ := ha0 rfl
                have : cs = [] := List.length_eq_zero_iff.1 (by simpa using hcs)
                subst this
                simp [bytesOf] at hb; subst hb
                refine ⟨.string ⟨⟨[]⟩⟩, w, ?_, μ, Img.le.refl μ, VR.mk_str _, hr, .refl _ _⟩
                simp only [convert, Sem.run_bind, hus, hud, Result.andThen_ok, hde, hse, hue']
                rfl
              | some a =>
                have hld : ∃ vs : List Value, (loadCells a n).run P w = .ok vs.toArray w ∧ VRL μ cs vs := by
                  by_cases hn : 0 < n
                  · obtain ⟨cb, off, arr, ha, hfz, hle, hvr⟩ := hd2 hn
                    cases ha
                    have := frz_loadn (P := P) hr hfz (n := n) (off := off) (by omega)
                    exact ⟨_, this, by simpa using hvr⟩
                  · have h0 : n = 0 := by omega
                    subst h0
                    have : cs = [] := List.length_eq_zero_iff.1 (by simpa using hcs)
                    subst this
                    exact ⟨[], by simp [loadCells, loadCellsFrom], VRL.nil⟩
                obtain ⟨vs, hload, hvr⟩ := hld
                obtain ⟨ns, rfl, rfl⟩ := bytesOf_inv hb hvr
                refine ⟨.string ⟨⟨ns.map fun n => UInt8.ofNat n.toNat⟩⟩, w, ?_, μ, Img.le.refl μ, VR.mk_str _, hr, .refl _ _⟩
                simp only [convert, Sem.run_bind, hus, hud, Result.andThen_ok, hde, hse, hue']
                rw [run_bytesToString (P := P) w a n c ns hload]
                rw [hfold]
                have : (⟨ByteArray.empty.data ++ (ns.map fun n => UInt8.ofNat n.toNat).toArray⟩ : ByteArray) = ⟨⟨ns.map fun n => UInt8.ofNat n.toNat⟩⟩ := by
                  simp [ByteArray.empty, ByteArray.emptyWithCapacity]; rfl
                rw [this]
          · cases hl
        · cases hl
      · cases hl
    · rename_i k n hde
      have := hx.int_inv; subst this
      split at hl
      · rename_i hse
        cases hl
        refine ⟨.string (Utf8.encode n), w, ?_, μ, Img.le.refl μ, VR.mk_str _, hr, .refl _ _⟩
        simp only [convert, Sem.run_bind, hus, hud, Result.andThen_ok, hde]
        rfl
      · cases hl
    · cases hl
  · cases hl

theorem makeSlice_sim {t : TypeId} {l c v : AV} {lv cv : Value} {h' : AH} (hlv : VR μ l lv) (hcv : VR μ c cv) (hl : aMakeSlice T t l c h = some (v, h')) :
    ∃ v' w', (Instr.makeSlice t lv cv).run P w = .ok v' w' ∧ Grows B μ w v h' v' w' := by
  unfold aMakeSlice at hl
  split at hl
  · rename_i ti k l k' c ht
    have hu := run_und hT ht w
    have := hlv.int_inv; subst this
    have := hcv.int_inv; subst this
    split at hl
    · rename_i e hd
      split at hl
      · rename_i te hte
        split at hl
        · rename_i hc
          obtain ⟨h0, h1, h2, h3⟩ := hc
          cases hl
          obtain ⟨z, hz, hzs, hzr⟩ := run_zero hT hte w
          obtain ⟨_, i, hi, hib, hisz⟩ := run_bytes hT hte w
          have hwl : IntKind.i64.wrap l = l := IntWalk.i64_in _ (by omega)
          have hwc : IntKind.i64.wrap c = c := IntWalk.i64_in _ (by omega)
          have hbig : ¬ ((te.bytes : Int) * c > 2 ^ 48) := by
            have : ((te.bytes : Int) * c) = ((c.toNat * te.bytes : Nat) : Int) := by
              rw [Int.natCast_mul, Int.toNat_of_nonneg (by omega), Int.mul_comm]
            rw [this]
            have : c.toNat * te.bytes ≤ 140737488355328 := h3
            omega
          have hc0 : ¬ c < 0 := by omega
          have hl0 : ¬ l < 0 := by omega
          have hlc : ¬ l > c := by omega
          have hcond : (decide (c < 0) || decide ((te.bytes : Int) * c > 2 ^ 48)) = false := by simp [hc0]; omega
          have hrep := repl_sim (hzr μ) c.toNat
          have hlen : (repl te.zero c.toNat).length = c.toNat * te.size := by rw [repl_length, (hzr μ).length]; simp [hzs]
          generalize harr : ((Array.range (c.toNat * z.cells.size)).map fun i => z.cells[i % z.cells.size]!) = arr at hrep
          have hrl := hrep.length
          refine ⟨.slice (some ⟨w.heap.size, 0, none⟩) l.toNat c.toNat, { w with heap := w.heap.push (.cells arr e) }, ?_, _, Img.le_upd hr.fresh, ?_,
            new_sim (k := .own) (fz := (0, 0)) hr (by simpa using CellsR.of_prefix hrep []) (by simp) (by simp) (fun _ => rfl), below_push w _ hr.base⟩
          · simp only [Instr.makeSlice, Sem.run_bind, hu, hd, Result.andThen_ok, asInt, asIntOf, Sem.run_pure, hi, hib, hwl, hwc]
            have hcond2 : (decide (c < 0) || decide ((te.bytes : Int) * c > 2 ^ 48) || decide (l < 0) || decide (l > c)) = false := by
              rw [hcond]; simp [hl0, hlc]
            rw [hcond2]
            simp only [Bool.false_eq_true, if_false, Sem.run_bind, run_askRoom, Result.andThen_ok, run_sz hT hte]
            have hz' : (Array.range (c.toNat * te.size)).map (fun i => z.cells[i % z.cells.size]!) = arr := by rw [← harr, hzs]
            by_cases h0' : c.toNat * te.size = 0
            · rw [if_pos h0']
              have e0 : (Array.range (c.toNat * te.size)).map (fun i => (#[] : Array Value)[i % (#[] : Array Value).size]!) = arr := by
                rw [← harr, hzs, h0']; simp
              simp only [Sem.run_bind, Sem.run_pure, Result.andThen_ok]
              rw [e0]
              simp [newRow]
            · rw [if_neg h0']
              simp only [Sem.run_bind, Sem.run_pure, Result.andThen_ok, hz]
              rw [hz']
              simp [newRow]
          · rw [VR]
            refine ⟨w.heap.size, 0, arr.size, _, c.toNat, upd_self _ _ _, rfl, .inr ⟨by simp, ?_⟩, by omega, Nat.le_refl _, fun _ => rfl⟩
            simp at hrl; omega
        · cases hl
      · cases hl
    · cases hl
  · cases hl

/-- What is appended or copied. -/
theorem source_sim {sz : Nat} {x : AV} {xv : Value} {n : Nat} {cs : List AV} (hx : VR μ x xv) (hl : aSource sz x h = some (n, cs)) :
    ∃ vs : List Value, (Builtin.lenOf xv).run P w = .ok n w ∧ (Builtin.firstCells sz n xv).run P w = .ok vs.toArray w ∧ VRL μ cs vs ∧ cs.length = n * sz ∧
      (∀ m, m ≤ n → (Builtin.firstCells sz m xv).run P w = .ok (vs.take (m * sz)).toArray w) := by
  unfold aSource at hl
  split at hl
  · cases hl
    have := hx.nils_inv; subst this
    exact ⟨[], rfl, rfl, VRL.nil, by simp, fun m hm => by simp [Builtin.firstCells]⟩
  · rename_i b o len cap z ex
    split at hl
    · rename_i hz; subst hz
      cases hcs : h.loadn b o (len * z) with
      | none => simp [hcs] at hl
      | some cs' =>
        simp [hcs] at hl
        obtain ⟨rfl, rfl⟩ := hl
        obtain ⟨cb, δ, N, a, c, hm, rfl, hor, hlc, hcc, hex⟩ := hx.sl_inv
        obtain ⟨vs, hvl, hvrun, hvr, hcl⟩ := loadn_sim' (P := P) hr hcs hm
        have hload : ∀ m, m ≤ len → (loadCells a (m * z)).run P w = .ok (vs.take (m * z)).toArray w := by
          intro m hm'
          rcases hor with h0 | ⟨ha, _⟩
          · have : len = 0 := by omega
            subst this
            have : m = 0 := by omega
            subst this
            simp [loadCells, loadCellsFrom]
          · subst ha
            exact hvrun _ (Nat.mul_le_mul_right _ hm')
        refine ⟨vs, rfl, ?_, hvr, by rw [hcl], fun m hm' => by simp only [Builtin.firstCells]; exact hload m hm'⟩
        have := hload len (Nat.le_refl _)
        simp only [Builtin.firstCells, this]
        rw [List.take_of_length_le (by omega)]
    · cases hl
  · rename_i s
    split at hl
    · rename_i hz; subst hz
      cases hl
      have := hx.str_inv; subst this
      have hsl : (⟨⟨s⟩⟩ : ByteArray).size = s.length := rfl
      have hget : ∀ m, m ≤ s.length → (Builtin.firstCells 1 m (.string ⟨⟨s⟩⟩)).run P w = .ok (((s.map fun c : UInt8 => (Value.int .u8 c.toNat))).take (m * 1)).toArray w := by
        intro m hm
        simp only [Builtin.firstCells, Sem.run_pure]
        congr 1
        apply Array.ext'
        simp only [Array.toList_map, Lib.extract_data]
        simp [List.map_take]
      refine ⟨s.map fun c : UInt8 => (Value.int .u8 c.toNat), by simp [Builtin.lenOf, hsl], ?_, bytes_map s, by simp [ofBytes], hget⟩
      have := hget s.length (Nat.le_refl _)
      rw [this, List.take_of_length_le (by simp)]
    · cases hl
  · rename_i ex z len cs'
    split at hl
    · rename_i hz; subst hz
      cases hl
      obtain ⟨a, c, rfl, hnc, hex, hcs, ha0, hd2⟩ := hx.lst_inv
      by_cases hn : 0 < n
      · obtain ⟨cb, off, arr, rfl, hfz, hle, hvr⟩ := hd2 hn
        have hget : ∀ m, m ≤ n → (Builtin.firstCells z m (.slice (some ⟨cb, off, none⟩) n c)).run P w = .ok (((arr.toList.drop off).take (n * z)).take (m * z)).toArray w := by
          intro m hm
          have h1 : m * z ≤ n * z := Nat.mul_le_mul_right _ hm
          have := frz_loadn (P := P) hr hfz (n := m * z) (off := off) (by omega)
          simp only [Builtin.firstCells]
          rw [List.take_take, Nat.min_eq_left h1]
          exact this
        refine ⟨_, rfl, ?_, hvr, hcs, hget⟩
        have := hget n (Nat.le_refl _)
        rwa [List.take_take, Nat.min_self] at this
      · have h0 : n = 0 := by omega
        subst h0
        have : cs = [] := List.length_eq_zero_iff.1 (by simpa using hcs)
        subst this
        refine ⟨[], rfl, ?_, VRL.nil, by simp, fun m hm => ?_⟩
        · cases a <;> simp [Builtin.firstCells, loadCells, loadCellsFrom]
        · have : m = 0 := by omega
          subst this
          cases a <;> simp [Builtin.firstCells, loadCells, loadCellsFrom]
    · cases hl
  · cases hl

omit hr in
theorem isSrc_inv {xt : TypeId} (hi : isSrc T xt = true) : ∃ d, P.underlying xt = some d ∧ ((∃ u, d = .slice u) ∨ d = .string) := by
  unfold isSrc at hi
  split at hi
  · rename_i ti hx
    refine ⟨ti.desc, hT.und xt ti hx, ?_⟩
    split at hi
    · rename_i u hd; exact .inl ⟨u, hd⟩
    · rename_i hd; exact .inr hd
    · cases hi
  · cases hi

theorem zeroCells_run {e : TypeId} {te : TI} (hte : T e = some te) (m : Nat) :
    ∃ rest : Array Value, (do pure (Builtin.zeroCells (← zeroValue e).cells m) : Sem (Array Value)).run P w = .ok rest w ∧ rest.size = m * te.size ∧ VRL μ (repl te.zero m) rest.toList := by
  obtain ⟨z, hz, hzs, hzr⟩ := run_zero hT hte w
  refine ⟨Builtin.zeroCells z.cells m, by simp [hz], by simp [Builtin.zeroCells, hzs], ?_⟩
  have := repl_sim (hzr μ) m
  exact this

theorem append_sim {t xt : TypeId} {s x v : AV} {sv xv : Value} {h' : AH} (hs : VR μ s sv) (hx : VR μ x xv) (hl : aAppend T t xt s x h = some (v, h')) (ty : TypeId) :
    ∃ v' w', (Builtin.append_ #[t, xt] ty #[sv, xv]).run P w = .ok v' w' ∧ Grows B μ w v h' v' w' := by
  unfold aAppend at hl
  split at hl
  · rename_i ti ht
    have hu := run_und hT ht w
    split at hl
    · rename_i e hd
      split at hl
      · rename_i te hte
        split at hl
        · cases hl
        · rename_i hni
          obtain ⟨xd, hxd, hxi⟩ := isSrc_inv hT hni
          have hxu : (underlying xt).run P w = .ok xd w := by simp [underlying, hxd]
          split at hl
          · cases hl
          · rename_i n new hsrc
            obtain ⟨vs, hlen, hfirst, hvr, hnl, _⟩ := source_sim hT w hr hx hsrc
            have hvl := hvr.length
            obtain ⟨_, i, hi, hib, hisz⟩ := run_bytes hT hte w
            obtain ⟨i', zz, hi', hsi, hbi, hzi, hzs, hzr⟩ := hT.info e te hte
            have hu' := hT.und t ti ht
            rw [hd] at hu'
            have hxi' := hxi
            rw [← hsi] at hfirst
            split at hl
            · -- nil
              have := hs.nils_inv; subst this
              split at hl
              · rename_i hn0; subst hn0
                cases hl
                exact ⟨_, w, run_app_none hu' hxd hxi' hi' hlen hfirst, μ, Img.le.refl μ, by rw [VR], hr, .refl _ _⟩
              · rename_i hn0
                split at hl
                · rename_i hlim
                  cases hl
                  have hnm : n ≤ n * te.bytes := Nat.le_mul_of_pos_right n hlim.1
                  have hlt : n * te.bytes < 140737488355328 := hlim.2
                  have hnx : Builtin.nextslicecap (0 + n) 0 * i'.bytes ≤ 281474976710656 := by
                    have h1 := Room.nextslicecap_le' (need := 0 + n) (old := 0) (by omega)
                    have h2 := Nat.mul_le_mul_right i'.bytes h1
                    rw [hbi] at h2 ⊢
                    rw [Nat.zero_add, Nat.mul_assoc] at h2
                    rw [Nat.zero_add]
                    omega
                  have hrun := run_app_grow (P := P) (w := w) (ty := ty) (base := none) (sLen := 0) (sCap := 0) (olds := #[]) hu' hxd hxi' hi' hzi hlen (firstCells_drew hfirst) (by simp [Builtin.firstCells])
                    (by omega) (by omega) hnx
                  simp only [Nat.zero_add, Array.empty_append] at hrun
                  have hcap : n ≤ grownCap w n 0 e := by simp [grownCap, Question.cut]
                  generalize grownCap w n 0 e = gc at *
                  have hpre := CellsR.of_prefix hvr (Builtin.zeroCells zz.cells (gc - n)).toList
                  have harr : (vs ++ (Builtin.zeroCells zz.cells (gc - n)).toList).toArray = vs.toArray ++ Builtin.zeroCells zz.cells (gc - n) := by apply Array.ext'; simp
                  rw [harr] at hpre
                  refine ⟨_, _, hrun, _, Img.le_upd hr.fresh, ?_, new_sim (k := .own) (fz := (0, 0)) hr hpre (by simp) (by simp) (fun _ => rfl), below_drewpush w _ hr.base⟩
                  rw [VR]
                  refine ⟨w.heap.size, 0, _, _, gc, upd_self _ _ _, rfl, .inr ⟨by simp, ?_⟩, Nat.le_refl _, hcap, by simp⟩
                  have hzl : (Builtin.zeroCells zz.cells (gc - n)).size = (gc - n) * te.size := by simp [Builtin.zeroCells, hzs]
                  have hvl2 : vs.length = n * te.size := by omega
                  simp only [Array.size_append, List.size_toArray, hzl, hvl2]
                  have := mul_split hT (sz := te.size) hcap
                  omega
                · cases hl
            · rename_i b o len cap sz ex
              obtain ⟨cb, δ, N, a, c, hm, rfl, hor, hlc, hcc, hex⟩ := hs.sl_inv
              split at hl
              · rename_i hsz
                split at hl
                · -- there is room
                  rename_i hroom
                  cases hst : h.storen b (o + len * sz) new with
                  | none => simp [hst] at hl
                  | some h2 =>
                    simp [hst] at hl
                    obtain ⟨rfl, rfl⟩ := hl
                    obtain ⟨w', hrun', hr', hB⟩ := storen_sim hT w hr hst hvr hm
                    have hslv : VR μ (.sl b o (len + n) cap sz ex) (.slice (some a) (len + n) c) := by
                      rw [VR]; exact ⟨cb, δ, N, a, c, hm, rfl, hor, hroom, hcc, hex⟩
                    rcases hor with h0 | ⟨ha, hN⟩
                    · have hn0 : n = 0 := by omega
                      have hvs : vs = [] := by
                        have : vs.length = 0 := by rw [← hvl, hnl, hn0]; simp
                        exact List.length_eq_zero_iff.1 this
                      subst hvs
                      have hww : w' = w := by simp [storeCells] at hrun'; exact hrun'.symm
                      subst hww
                      exact ⟨_, w', run_app_room (a := a) hu' hxd hxi' hi' hlen hfirst (by omega) (by simp [storeCells]), μ, Img.le.refl μ, hslv, hr', hB⟩
                    · subst ha
                      refine ⟨_, w', run_app_room hu' hxd hxi' hi' hlen hfirst (by omega) ?_, μ, Img.le.refl μ, hslv, hr', hB⟩
                      rw [add_at, hsi, hsz, Nat.add_assoc]; exact hrun'
                · rename_i hroom
                  split at hl
                  · rename_i hlim
                    split at hl
                    · rename_i cs k hb
                      split at hl
                      · rename_i hcl
                        have hcsl : h.loadn b o (len * sz) = some ((cs.drop o).take (len * sz)) := by simp [AH.loadn, hb, hcl]
                        obtain ⟨ovs, hovl, horun, hovr, _⟩ := loadn_sim' (P := P) hr hcsl hm
                        have hnm : len + n ≤ (len + n) * te.bytes := Nat.le_mul_of_pos_right _ hlim.1
                        have hlt : (len + n) * te.bytes < 140737488355328 := hlim.2
                        have hall := hovr.append hvr
                        -- the way by a new row
                        have hgrow : c < len + n → ∃ v' w', (Builtin.append_ #[t, xt] ty #[.slice (some a) len c, xv]).run P w = .ok v' w' ∧
                            Grows B μ w (.sl h.next 0 (len + n) (len + n) sz false) (h.alloc (.cells ((cs.drop o).take (len * sz) ++ new) .own)) v' w' := by
                          intro hg
                          have hload : (Builtin.firstCells i'.size len (.slice (some a) len c)).run P w = .ok ovs.toArray w := by
                            simp only [Builtin.firstCells]
                            rw [hsi, hsz]
                            rcases hor with h0 | ⟨ha, _⟩
                            · have hl0 : len = 0 := by omega
                              subst hl0
                              have : ovs = [] := by simpa using hovl
                              subst this
                              simp [loadCells, loadCellsFrom]
                            · subst ha
                              have := horun (len * sz) (Nat.le_refl _)
                              rw [List.take_of_length_le (by omega)] at this
                              exact this
                          have hnx : Builtin.nextslicecap (len + n) c * i'.bytes ≤ 281474976710656 := by
                            have h1 := Room.nextslicecap_le' hg
                            have h2 := Nat.mul_le_mul_right i'.bytes h1
                            rw [hbi] at h2 ⊢
                            rw [Nat.mul_assoc] at h2
                            omega
                          have hrun := run_app_grow (P := P) (w := w) (ty := ty) (base := some a) (sLen := len) (sCap := c) (olds := ovs.toArray) hu' hxd hxi' hi' hzi hlen (firstCells_drew hfirst) (firstCells_drew hload)
                            hg (by omega) hnx
                          have hcap : len + n ≤ grownCap w (len + n) c e := by simp [grownCap, Question.cut]
                          generalize grownCap w (len + n) c e = gc at *
                          have hpre := CellsR.of_prefix hall (Builtin.zeroCells zz.cells (gc - (len + n))).toList
                          have harr : (ovs ++ vs ++ (Builtin.zeroCells zz.cells (gc - (len + n))).toList).toArray = ovs.toArray ++ vs.toArray ++ Builtin.zeroCells zz.cells (gc - (len + n)) := by apply Array.ext'; simp
                          rw [harr] at hpre
                          refine ⟨_, _, hrun, _, Img.le_upd hr.fresh, ?_, new_sim (k := .own) (fz := (0, 0)) hr hpre (by simp) (by simp) (fun _ => rfl), below_drewpush w _ hr.base⟩
                          rw [VR]
                          refine ⟨w.heap.size, 0, _, _, gc, upd_self _ _ _, rfl, .inr ⟨by simp, ?_⟩, Nat.le_refl _, hcap, by simp⟩
                          have hzl : (Builtin.zeroCells zz.cells (gc - (len + n))).size = (gc - (len + n)) * te.size := by simp [Builtin.zeroCells, hzs]
                          have hvl2 : vs.length = n * te.size := by omega
                          simp only [Array.size_append, List.size_toArray, hzl, hvl2, hovl, hsz]
                          have h1 := mul_split hT (sz := sz) hcap
                          have h2 : (len + n) * sz = len * sz + n * sz := Nat.add_mul _ _ _
                          omega
                        split at hl
                        · -- the capacity is known
                          cases hl
                          have hc : c = cap := hex rfl
                          exact hgrow (by omega)
                        · split at hl
                          · cases hl
                          · cases hl
                          · split at hl
                            case isFalse => cases hl
                            rename_i hone
                            cases hl
                            by_cases hg : c < len + n
                            · obtain ⟨v', w', hrun, μ', h1, h2, h3, h4⟩ := hgrow hg
                              refine ⟨v', w', hrun, μ', h1, h2, ?_, h4⟩
                              have hbn : b ≠ h.next := fun e => absurd (hr.blk b _ hb).1 (by omega)
                              have hk := h3.kill (b := b) (x := .cells cs .own) (by rw [AH.get_alloc, if_neg hbn]; exact hb) rfl
                              refine hk.congr rfl fun c => ?_
                              rw [AH.get_alloc, AH.get_put, AH.get_put, AH.get_alloc]
                              show (if c = h.next then _ else _) = _
                              by_cases e1 : c = h.next
                              · rw [if_pos e1, if_neg (by rw [e1]; exact fun e => hbn e.symm), if_pos e1]
                              · rw [if_neg e1]; by_cases e2 : c = b
                                · rw [if_pos e2, if_pos e2]
                                · rw [if_neg e2, if_neg e2, if_neg e1]
                            · -- in place
                              obtain ⟨_, cb', δ', N', arr, el, fz, g1, g2, g3, _, g4⟩ := hr.blk b _ hb
                              rw [hm] at g1; cases g1
                              obtain ⟨q1, q2, q3, q4⟩ := g4 (by simp)
                              have hcpos : c ≠ 0 := by
                                intro h0; subst h0
                                have : len + n ≤ cap := by omega
                                exact hroom this
                              rcases hor with h0 | ⟨ha, hN⟩
                              · exact absurd h0 hcpos
                              · subst ha
                                have hle : (len + n) * sz ≤ c * sz := Nat.mul_le_mul_right _ (by omega)
                                have hadd : (len + n) * sz = len * sz + n * sz := Nat.add_mul _ _ _
                                have hvl2 : vs.length = n * sz := by rw [← hvl, hnl, hsz]
                                have hones : ∀ u ∈ vs, u.oneCell' = true := by
                                  intro u hu
                                  obtain ⟨j, hj, he⟩ := List.getElem_of_mem hu
                                  have hjv : j < new.length := by omega
                                  obtain ⟨u', hu', hr'⟩ := hvr.get (List.getElem?_eq_getElem hjv)
                                  rw [List.getElem?_eq_getElem hj] at hu'
                                  cases hu'; subst he
                                  exact hr'.one (List.all_eq_true.1 hone _ (List.getElem_mem hjv))
                                have hst := run_storeCells_any (P := P) cb (δ + o + len * sz) el fz vs 0 arr w g2 (by omega) (by rw [q2]; exact q3) hones
                                simp only [Nat.add_zero] at hst
                                have hrun := run_app_room (P := P) (ty := ty) (a := ⟨cb, δ + o, none⟩) (sLen := len) (sCap := c) hu' hxd hxi' hi' hlen hfirst (by omega) (w' := _) (by
                                  rw [add_at, hsi, hsz]; exact hst)
                                refine ⟨_, _, hrun, μ.upd h.next (cb, δ + o, N), Img.le_upd hr.fresh, ?_, ?_, below_set w cb _ q1⟩
                                · rw [VR]
                                  exact ⟨cb, δ + o, N, _, c, upd_self _ _ _, rfl, .inr ⟨by simp, by simpa using hN⟩, Nat.le_refl _, by omega, by simp⟩
                                · have hlt : cb < w.heap.size := (Array.getElem?_eq_some_iff.1 g2).1
                                  refine hr.moveTo hb rfl hm q1 hlt ?_
                                  refine ⟨cb, δ + o, N, (arr.toList.take (δ + o + len * sz) ++ vs ++ arr.toList.drop (δ + o + len * sz + vs.length)).toArray, el, fz, upd_self _ _ _, by simp [hlt], ?_, by simp, fun _ => ⟨q1, by simp; omega, q3, q4⟩⟩
                                  have hal := hall.length
                                  have hol : (List.take (len * sz) (List.drop o cs)).length = len * sz := by simp; omega
                                  refine ⟨by simp; omega, fun j x hj => ?_⟩
                                  have hle' : μ.le (μ.upd h.next (cb, δ + o, N)) := Img.le_upd hr.fresh
                                  by_cases hj1 : j < len * sz
                                  · rw [List.getElem?_append_left (by omega), List.getElem?_take, if_pos hj1, List.getElem?_drop] at hj
                                    obtain ⟨v, hv, hvr'⟩ := g3.rel _ _ hj
                                    refine ⟨v, ?_, hvr'.mono hle'⟩
                                    rw [List.getElem?_toArray, List.append_assoc, List.getElem?_append_left (by simp; omega), List.getElem?_take, if_pos (by omega)]
                                    rw [← Nat.add_assoc] at hv
                                    simpa using hv
                                  · rw [List.getElem?_append_right (by omega), hol] at hj
                                    obtain ⟨v, hv, hvr'⟩ := hvr.get hj
                                    have hjl : j - len * sz < vs.length := (List.getElem?_eq_some_iff.1 hv).1
                                    refine ⟨v, ?_, hvr'.mono hle'⟩
                                    rw [List.getElem?_toArray, List.append_assoc, List.getElem?_append_right (by simp; omega), List.getElem?_append_left (by simp; omega)]
                                    simp only [List.length_take, Array.length_toList]
                                    rw [Nat.min_eq_left (by omega), show δ + o + j - (δ + o + len * sz) = j - len * sz by omega]
                                    exact hv
                      · cases hl
                    · cases hl
                  · cases hl
              · cases hl
            · -- a list
              rename_i ex z len cs
              obtain ⟨a, c, rfl, hnc, hex, hcs, ha0, hd2⟩ := hs.lst_inv
              split at hl
              · rename_i hn0; subst hn0
                cases hl
                cases a with
                | none =>
                  obtain ⟨rfl, rfl⟩ := ha0 rfl
                  exact ⟨_, w, run_app_none hu' hxd hxi' hi' hlen hfirst, μ, Img.le.refl μ, hs, hr, .refl _ _⟩
                | some a =>
                  have hvs : vs = [] := by
                    have : vs.length = 0 := by rw [← hvl, hnl]; simp
                    exact List.length_eq_zero_iff.1 this
                  subst hvs
                  exact ⟨_, w, run_app_room (a := a) hu' hxd hxi' hi' hlen hfirst (by omega) (by simp [storeCells]), μ, Img.le.refl μ, hs, hr, .refl _ _⟩
              · rename_i hn0
                split at hl
                · rename_i hlim
                  obtain ⟨hex1, hzs2, hlim1, hlim2⟩ := hlim
                  cases hl
                  have hc := hex hex1
                  subst hc
                  have hld : ∃ ovs : List Value, (Builtin.firstCells i'.size c (.slice a c c)).run P w = .ok ovs.toArray w ∧ VRL μ cs ovs := by
                    by_cases hn : 0 < c
                    · obtain ⟨cb, off, arr, ha, hfz, hle, hvr⟩ := hd2 hn
                      subst ha
                      have := frz_loadn (P := P) hr hfz (n := c * z) (off := off) (by omega)
                      refine ⟨_, ?_, hvr⟩
                      simp only [Builtin.firstCells]
                      rw [hsi, ← hzs2]
                      exact this
                    · have h0 : c = 0 := by omega
                      subst h0
                      have : cs = [] := List.length_eq_zero_iff.1 (by simpa using hcs)
                      subst this
                      exact ⟨[], by cases a <;> simp [Builtin.firstCells, loadCells, loadCellsFrom], VRL.nil⟩
                  obtain ⟨ovs, hload, hovr⟩ := hld
                  have hovl := hovr.length
                  have hnm : c + n ≤ (c + n) * te.bytes := Nat.le_mul_of_pos_right _ hlim1
                  have hlt : (c + n) * te.bytes < 140737488355328 := hlim2
                  have hnx : Builtin.nextslicecap (c + n) c * i'.bytes ≤ 281474976710656 := by
                    have h1 := Room.nextslicecap_le' (need := c + n) (old := c) (by omega)
                    have h2 := Nat.mul_le_mul_right i'.bytes h1
                    rw [hbi] at h2 ⊢
                    rw [Nat.mul_assoc] at h2
                    omega
                  have hrun := run_app_grow (P := P) (w := w) (ty := ty) (base := a) (sLen := c) (sCap := c) (olds := ovs.toArray) hu' hxd hxi' hi' hzi hlen (firstCells_drew hfirst) (firstCells_drew hload)
                    (by omega) (by omega) hnx
                  have hcap : c + n ≤ grownCap w (c + n) c e := by simp [grownCap, Question.cut]
                  generalize grownCap w (c + n) c e = gc at *
                  have hall := hovr.append hvr
                  have hpre := CellsR.of_prefix hall (Builtin.zeroCells zz.cells (gc - (c + n))).toList
                  have harr : (ovs ++ vs ++ (Builtin.zeroCells zz.cells (gc - (c + n))).toList).toArray = ovs.toArray ++ vs.toArray ++ Builtin.zeroCells zz.cells (gc - (c + n)) := by apply Array.ext'; simp
                  rw [harr] at hpre
                  refine ⟨_, _, hrun, _, Img.le_upd hr.fresh, ?_, new_sim (k := .own) (fz := (0, 0)) hr hpre (by simp) (by simp) (fun _ => rfl), below_drewpush w _ hr.base⟩
                  rw [VR]
                  refine ⟨w.heap.size, 0, _, _, gc, upd_self _ _ _, rfl, .inr ⟨by simp, ?_⟩, Nat.le_refl _, hcap, by simp⟩
                  have hzl : (Builtin.zeroCells zz.cells (gc - (c + n))).size = (gc - (c + n)) * te.size := by simp [Builtin.zeroCells, hzs]
                  have hvl2 : vs.length = n * te.size := by omega
                  have hovl2 : ovs.length = c * te.size := by rw [← hovl, hcs, hzs2]
                  simp only [Array.size_append, List.size_toArray, hzl, hvl2, hovl2, hzs2]
                  have h1 := mul_split hT (sz := te.size) hcap
                  have h2 : (c + n) * te.size = c * te.size + n * te.size := Nat.add_mul _ _ _
                  omega
                · cases hl
            · cases hl
      · cases hl
    · cases hl
  · cases hl

end
end Go.AM
