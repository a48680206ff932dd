/- The document's printer: rows, clients, places. Own work. -/
import Derived.Test.YtleefbnanliliaaDoorPpgI
namespace Go.AM.Sx
open Go Go.AM
set_option linter.unusedVariables false
/-- A row anywhere in a block. -/
def RowG (sz : Nat) (h : AH) (v : AV) (n : Nat) (cs : List AV) : Prop :=
  (v = .nils ∧ n = 0 ∧ cs = []) ∨ ∃ b o cap ex pre rest, v = .sl b o n cap sz ex ∧ pre.length = o ∧ cs.length = n * sz ∧ n ≤ cap ∧ b < h.next ∧ h.get b = some (.cells (pre ++ (cs ++ rest)) .own)
theorem RowC.toG {sz n : Nat} {h : AH} {v : AV} {cs : List AV} (hs : 0 < sz) (hr : RowC sz h v n cs) : RowG sz h v n cs := by
  rcases hr with h | ⟨b, cap, ex, rest, rfl, h1, h2, h3, h4⟩
  · exact .inl h
  · refine .inr ⟨b, 0, cap, ex, [], rest, rfl, rfl, h1, ?_, h3, h4⟩
    have : n * sz ≤ cap * sz := by omega
    exact Nat.le_of_mul_le_mul_right this hs
theorem RowG.nil (sz : Nat) (h : AH) : RowG sz h .nils 0 [] := .inl ⟨rfl, rfl, rfl⟩
theorem RowG.lt {sz n : Nat} {h : AH} {v : AV} {cs : List AV} (hr : RowG sz h v n cs) {b o l k z : Nat} {x : Bool} (hv : v = .sl b o l k z x) : b < h.next := by
  rcases hr with ⟨rfl, _⟩ | ⟨b', o', cap, ex, pre, rest, rfl, _, _, _, h3, _⟩
  · cases hv
  · cases hv; exact h3
theorem RowG.keep {sz n : Nat} {h h2 : AH} {v : AV} {cs : List AV} (hr : RowG sz h v n cs) (hn : h.next ≤ h2.next) (hk : ∀ b o l k z x, v = .sl b o l k z x → h2.get b = h.get b) : RowG sz h2 v n cs := by
  rcases hr with h | ⟨b, o, cap, ex, pre, rest, rfl, h1, h2', h3, h4, h5⟩
  · exact .inl h
  · exact .inr ⟨b, o, cap, ex, pre, rest, rfl, h1, h2', h3, by omega, by rw [hk _ _ _ _ _ _ rfl]; exact h5⟩
theorem RowG.grow {sz n : Nat} {h h2 : AH} {v : AV} {cs : List AV} (hr : RowG sz h v n cs) (hg : Grow h h2) : RowG sz h2 v n cs := hr.keep hg.1 fun b o l k z x e => hg.2 b (hr.lt e)
theorem RowG.len {T : TT} {t el : Nat} {ti : TI} {sz n : Nat} {h h2 : AH} {v : AV} {cs : List AV} (ht : T t = some ti) (hd : ti.desc = .slice el) (hr : RowG sz h v n cs) : aLen T t v h2 = some (.int .i64 (n : Nat)) := by
  rcases hr with ⟨rfl, rfl, _⟩ | ⟨b, o, cap, ex, pre, rest, rfl, _⟩
  · simp [aLen, ht, hd]
  · simp [aLen, ht, hd]
theorem RowG.cells {sz n : Nat} {h : AH} {v : AV} {cs : List AV} (hr : RowG sz h v n cs) : v.cells = some [v] ∧ v.one = true := by
  rcases hr with ⟨rfl, _⟩ | ⟨b, o, cap, ex, pre, rest, rfl, _⟩ <;> exact ⟨rfl, rfl⟩
/-- The row cut so that nothing may come behind it. -/
def cutX : AV → AV
  | .sl b o n _ sz _ => .sl b o n n sz true
  | v => v
variable {T : TT} {t el : Nat} {ti te : TI} {sz n : Nat} {h : AH} {v : AV} {cs : List AV}
theorem RowG.cut (ht : T t = some ti) (hd : ti.desc = .slice el) (he : T el = some te) (hz : te.size = sz) (hr : RowG sz h v n cs) : aSlice T t v none (some (.int .i64 (n : Nat))) (some (.int .i64 (n : Nat))) = some (cutX v) := by
  rcases hr with ⟨rfl, rfl, _⟩ | ⟨b, o, cap, ex, pre, rest, rfl, h1, h2, h3, h4, h5⟩
  · simp [aSlice, ht, hd, he, bnd, cutX]
  · have q1 : (0 : Int) ≤ (n : Int) := by omega
    simp [aSlice, ht, hd, he, bnd, cutX, hz, h3]
theorem RowG.pushX {new : List AV} (ht : T t = some ti) (hd : ti.desc = .slice el) (he : T el = some te) (hz : te.size = sz) (hs0 : 0 < sz) (hb : 0 < te.bytes) (hr : RowG sz h v n cs)
    (hl : new.length = sz) (hone : new.all AV.one = true) (hsm : (n + 1) * te.bytes < maxBytes) :
    ∃ v' h2, aAppend T t t (cutX v) (.sl h.next 0 1 1 sz true) (h.alloc (.cells new .own)) = some (v', h2) ∧ RowC sz h2 v' (n + 1) (cs ++ new) ∧ (∀ b o l k z x, v' = .sl b o l k z x → h.next ≤ b) ∧ Grow h h2 := by
  have hsrc : aSource te.size (.sl h.next 0 1 1 sz true) (h.alloc (.cells new .own)) = some (1, new) := by
    rw [hz, src_sl]
    simp only [AH.loadn, AH.get_alloc, if_true]
    rw [if_pos (by omega)]
    simp [← hl]
  have hg := Grow.alloc h (.cells new .own)
  rcases hr with ⟨rfl, rfl, rfl⟩ | ⟨b, o, cap, ex, pre, rest, rfl, h1, h2, h3, h4, h5⟩
  · have := app_nils (T := T) (t := t) (xt := t) (h := h.alloc (.cells new .own)) ht hd he (isSrc_sl ht hd) hsrc hb (by decide) (by simpa using hsm)
    refine ⟨_, _, this, .inr ⟨h.next + 1, 1, false, [], by simp [hz], by simp [hl], by simp [hl], by simp, by rw [AH.get_alloc, if_pos (by simp)]; simp⟩, fun b o l k z x e => by cases e; simp, hg.trans (Grow.alloc _ _)⟩
  · have hg5 : (h.alloc (.cells new .own)).get b = some (.cells (pre ++ (cs ++ rest)) .own) := by rw [AH.get_alloc, if_neg (by omega)]; exact h5
    have := app_slx (T := T) (t := t) (xt := t) (h := h.alloc (.cells new .own)) (b := b) (o := o) (len := n) (cs := pre ++ (cs ++ rest)) ht hd he (isSrc_sl ht hd) hsrc hb hz hg5 (by simp only [List.length_append]; omega) (by decide) hsm
    have hcs : List.take (n * sz) (List.drop o (pre ++ (cs ++ rest))) = cs := by rw [← h1, List.drop_left, ← h2, List.take_left]
    rw [hcs] at this
    refine ⟨_, _, this, .inr ⟨h.next + 1, n + 1, false, [], by simp, by rw [List.length_append, h2, hl, Nat.add_mul]; omega, by rw [List.length_append, h2, hl, Nat.add_mul]; simp, by simp, by rw [AH.get_alloc, if_pos (by simp)]; simp⟩, fun b o l k z x e => by cases e; simp, hg.trans (Grow.alloc _ _)⟩
theorem RowG.tail (ht : T t = some ti) (hd : ti.desc = .slice el) (he : T el = some te) (hz : te.size = sz) (hr : RowG sz h v (n + 1) cs) : ∃ v', aSlice T t v (some (.int .i64 1)) none none = some v' ∧ RowG sz h v' n (cs.drop sz) ∧ ∀ b o l k z x, v' = .sl b o l k z x → ∃ o l k z x, v = .sl b o l k z x := by
  rcases hr with ⟨_, h0, _⟩ | ⟨b, o, cap, ex, pre, rest, rfl, h1, h2, h3, h4, h5⟩
  · omega
  · refine ⟨.sl b (o + sz) n (cap - 1) sz ex, ?_, .inr ⟨b, o + sz, cap - 1, ex, pre ++ cs.take sz, rest, rfl, ?_, ?_, by omega, h4, ?_⟩, fun b o l k z x e => by cases e; exact ⟨_, _, _, _, _, rfl⟩⟩
    · simp only [aSlice, ht, hd, he, bnd]
      simp [hz]
      omega
    · rw [List.length_append, List.length_take, h1, h2, Nat.add_mul]; omega
    · rw [List.length_drop, h2, Nat.add_mul]; omega
    · rw [h5, List.append_assoc, ← List.append_assoc (cs.take sz), List.take_append_drop]
end Go.AM.Sx
namespace Go.AM.X
open Go Go.AM Go.Proofs Go.AM.Sx
set_option maxHeartbeats 1600000
set_option maxRecDepth 100000
set_option linter.unusedVariables false
noncomputable def tt4 : TI := (T 4).getD ⟨.bool, 0, 0, [], false, [], [], none⟩
theorem T4 : T 4 = some tt4 := by kernel_rfl
theorem d4 : tt4.desc = .bool := by kernel_rfl
theorem s4 : tt4.size = 1 := by kernel_rfl
theorem b4 : tt4.bytes = 1 := by kernel_rfl
theorem a4 : tt4.agg = false := by kernel_rfl
theorem z4 : tt4.zero = [.bool false] := by kernel_rfl
noncomputable def tt36 : TI := (T 36).getD ⟨.bool, 0, 0, [], false, [], [], none⟩
theorem T36 : T 36 = some tt36 := by kernel_rfl
theorem s36 : tt36.size = 3 := by kernel_rfl
theorem a36 : tt36.agg = true := by kernel_rfl
theorem p36_0 : tt36.places[0]? = some (0, 1, false) := by kernel_rfl
theorem p36_1 : tt36.places[1]? = some (1, 1, false) := by kernel_rfl
theorem p36_2 : tt36.places[2]? = some (2, 1, false) := by kernel_rfl
noncomputable def tt37 : TI := (T 37).getD ⟨.bool, 0, 0, [], false, [], [], none⟩
theorem T37 : T 37 = some tt37 := by kernel_rfl
theorem d37 : tt37.desc = .pointer 43 := by kernel_rfl
noncomputable def tt40 : TI := (T 40).getD ⟨.bool, 0, 0, [], false, [], [], none⟩
theorem T40 : T 40 = some tt40 := by kernel_rfl
theorem d40 : tt40.desc = .pointer 103 := by kernel_rfl
theorem a40 : tt40.agg = false := by kernel_rfl
noncomputable def tt41 : TI := (T 41).getD ⟨.bool, 0, 0, [], false, [], [], none⟩
theorem T41 : T 41 = some tt41 := by kernel_rfl
theorem a41 : tt41.agg = false := by kernel_rfl
noncomputable def tt43 : TI := (T 43).getD ⟨.bool, 0, 0, [], false, [], [], none⟩
theorem T43 : T 43 = some tt43 := by kernel_rfl
theorem d43 : tt43.desc = .struct (fieldsD tt43.desc).toArray := by kernel_rfl
theorem z43 : tt43.zero = [.nilp, .nilp, .nilp, .nilp, .nilm] := by kernel_rfl
theorem p43_0 : tt43.places[0]? = some (0, 1, false) := by kernel_rfl
theorem p43_1 : tt43.places[1]? = some (1, 1, false) := by kernel_rfl
theorem p43_2 : tt43.places[2]? = some (2, 1, false) := by kernel_rfl
theorem p43_3 : tt43.places[3]? = some (3, 1, false) := by kernel_rfl
theorem p43_4 : tt43.places[4]? = some (4, 1, false) := by kernel_rfl
noncomputable def tt47 : TI := (T 47).getD ⟨.bool, 0, 0, [], false, [], [], none⟩
theorem T47 : T 47 = some tt47 := by kernel_rfl
theorem d47 : tt47.desc = .slice 53 := by kernel_rfl
noncomputable def tt53 : TI := (T 53).getD ⟨.bool, 0, 0, [], false, [], [], none⟩
theorem T53 : T 53 = some tt53 := by kernel_rfl
theorem s53 : tt53.size = 6 := by kernel_rfl
theorem a53 : tt53.agg = true := by kernel_rfl
theorem p53_0 : tt53.places[0]? = some (0, 1, false) := by kernel_rfl
theorem p53_1 : tt53.places[1]? = some (1, 1, false) := by kernel_rfl
theorem p53_2 : tt53.places[2]? = some (2, 1, false) := by kernel_rfl
theorem p53_3 : tt53.places[3]? = some (3, 1, false) := by kernel_rfl
theorem p53_4 : tt53.places[4]? = some (4, 1, false) := by kernel_rfl
theorem p53_5 : tt53.places[5]? = some (5, 1, false) := by kernel_rfl
noncomputable def tt101 : TI := (T 101).getD ⟨.bool, 0, 0, [], false, [], [], none⟩
theorem T101 : T 101 = some tt101 := by kernel_rfl
theorem d101 : tt101.desc = .slice 106 := by kernel_rfl
theorem s101 : tt101.size = 1 := by kernel_rfl
theorem a101 : tt101.agg = false := by kernel_rfl
noncomputable def tt103 : TI := (T 103).getD ⟨.bool, 0, 0, [], false, [], [], none⟩
theorem T103 : T 103 = some tt103 := by kernel_rfl
theorem d103 : tt103.desc = .struct (fieldsD tt103.desc).toArray := by kernel_rfl
theorem s103 : tt103.size = 8 := by kernel_rfl
theorem z103 : tt103.zero = [.int .i64 0, .int .i64 0, .nils, .nils, .nils, .nils, .int .i64 0, .int .i64 0] := by kernel_rfl
theorem p103_0 : tt103.places[0]? = some (0, 1, false) := by kernel_rfl
theorem p103_1 : tt103.places[1]? = some (1, 1, false) := by kernel_rfl
theorem p103_2 : tt103.places[2]? = some (2, 1, false) := by kernel_rfl
theorem p103_3 : tt103.places[3]? = some (3, 1, false) := by kernel_rfl
theorem p103_4 : tt103.places[4]? = some (4, 1, false) := by kernel_rfl
theorem p103_5 : tt103.places[5]? = some (5, 1, false) := by kernel_rfl
theorem p103_6 : tt103.places[6]? = some (6, 1, false) := by kernel_rfl
theorem p103_7 : tt103.places[7]? = some (7, 1, false) := by kernel_rfl
noncomputable def tt106 : TI := (T 106).getD ⟨.bool, 0, 0, [], false, [], [], none⟩
theorem T106 : T 106 = some tt106 := by kernel_rfl
theorem d106 : tt106.desc = .struct (fieldsD tt106.desc).toArray := by kernel_rfl
theorem s106 : tt106.size = 7 := by kernel_rfl
theorem b106 : tt106.bytes = 72 := by kernel_rfl
theorem a106 : tt106.agg = true := by kernel_rfl
theorem z106 : tt106.zero = [.int .i64 0, .int .i64 0, .int .i64 0, .int .i64 0, .bool false, .nils, .nilp] := by kernel_rfl
theorem p106_0 : tt106.places[0]? = some (0, 1, false) := by kernel_rfl
theorem p106_1 : tt106.places[1]? = some (1, 1, false) := by kernel_rfl
theorem p106_2 : tt106.places[2]? = some (2, 1, false) := by kernel_rfl
theorem p106_3 : tt106.places[3]? = some (3, 1, false) := by kernel_rfl
theorem p106_4 : tt106.places[4]? = some (4, 1, false) := by kernel_rfl
theorem p106_5 : tt106.places[5]? = some (5, 1, false) := by kernel_rfl
theorem p106_6 : tt106.places[6]? = some (6, 1, false) := by kernel_rfl
theorem F63 : F 63 = some { body := (Tryd.f63.body.getD .skip), results := Tryd.f63.results.toList, rf := false } := by kernel_rfl
theorem R63 : regsOk T (Tryd.f63.body.getD .skip) = true := by kernel_rfl
theorem F64 : F 64 = some { body := (Tryd.f64.body.getD .skip), results := Tryd.f64.results.toList, rf := false } := by kernel_rfl
theorem R64 : regsOk T (Tryd.f64.body.getD .skip) = true := by kernel_rfl
theorem F66 : F 66 = some { body := (Tryd.f66.body.getD .skip), results := Tryd.f66.results.toList, rf := false } := by kernel_rfl
theorem R66 : regsOk T (Tryd.f66.body.getD .skip) = true := by kernel_rfl
/-- A client of the document's printer. -/
structure Rc where
  who : Int
  wt : Int
  si : Int
  nx : Int
  tk : Bool
  dv : AV
  d : List Int
  by_ : AV
def Rc.av (c : Rc) : List AV := [.int .i64 c.who, .int .i64 c.wt, .int .i64 c.si, .int .i64 c.nx, .bool c.tk, c.dv, c.by_]
theorem Rc.len (c : Rc) : c.av.length = 7 := rfl
abbrev rcs (l : List Rc) : List AV := fl Rc.av l
theorem loadC {h : AH} {v : AV} {l : List Rc} {i : Nat} {c : Rc} (hr : RowC 7 h v l.length (rcs l)) (hx : l[i]? = some c) :
    ∃ b cs kk, aIndexAddr T 101 v (.int .i64 (i : Nat)) = some (.ptr b (i * 7)) ∧ h.get b = some (.cells cs kk) ∧ i * 7 + 7 ≤ cs.length ∧ (cs.drop (i * 7)).take 7 = [.int .i64 c.who, .int .i64 c.wt, .int .i64 c.si, .int .i64 c.nx, .bool c.tk, c.dv, c.by_] ∧
      cs[i * 7]? = some (.int .i64 c.who) ∧ cs[i * 7 + 0]? = some (.int .i64 c.who) ∧ cs[i * 7 + 1]? = some (.int .i64 c.wt) ∧ cs[i * 7 + 2]? = some (.int .i64 c.si) ∧ cs[i * 7 + 3]? = some (.int .i64 c.nx) ∧ cs[i * 7 + 4]? = some (.bool c.tk) ∧ cs[i * 7 + 5]? = some c.dv ∧ cs[i * 7 + 6]? = some c.by_ ∧ ∃ o n cap z ex, v = .sl b o n cap z ex := by
  obtain ⟨b, cs, kk, h1, h2, h3, h4⟩ := loadR Rc.av 7 Rc.len T101 d101 T106 s106 hr hx
  have w := fun k : Nat => congrArg (fun l : List AV => l[k]?) h4
  have w0 := w 0
  have w1 := w 1
  have w2 := w 2
  have w3 := w 3
  have w4 := w 4
  have w5 := w 5
  have w6 := w 6
  simp [List.getElem?_drop, Rc.av] at w0 w1 w2 w3 w4 w5 w6
  have hv : ∃ o n cap z ex, v = .sl b o n cap z ex := by
    rcases hr with ⟨rfl, h0, _⟩ | ⟨b', cap, ex, rest, rfl, _⟩
    · have := (List.getElem?_eq_some_iff.1 hx).1; omega
    · rw [ia_sl T101 d101 T106 s106] at h1
      split at h1
      · simp at h1; obtain ⟨rfl, _⟩ := h1; exact ⟨_, _, _, _, _, rfl⟩
      · cases h1
  exact ⟨b, cs, kk, h1, h2, h3, h4, w0, w0, w1, w2, w3, w4, w5, w6, hv⟩
def atR (l : List Rc) (w : Int) : Int := match l.findIdx? (fun c => decide (c.who = w)) with
  | some i => (i : Int)
  | none => -1
theorem find_hit {α : Type} {p : α → Bool} {l : List α} {i : Nat} {x : α} (h : (l.take i).findIdx? p = none) (hx : l[i]? = some x) (hp : p x = true) : l.findIdx? p = some i := by
  obtain ⟨hi, he⟩ := List.getElem?_eq_some_iff.1 hx
  rw [List.findIdx?_eq_some_iff_getElem]
  refine ⟨hi, by rw [he]; exact hp, fun j hj => ?_⟩
  rw [List.findIdx?_eq_none_iff] at h
  have := h l[j] (List.mem_iff_getElem?.2 ⟨j, by rw [List.getElem?_take, if_pos hj]; exact List.getElem?_eq_getElem (by omega)⟩)
  simpa using this
theorem find_miss {α : Type} {p : α → Bool} {l : List α} {i : Nat} {x : α} (h : (l.take i).findIdx? p = none) (hx : l[i]? = some x) (hp : p x = false) : (l.take (i + 1)).findIdx? p = none := by
  rw [List.findIdx?_eq_none_iff] at h ⊢
  intro y hy
  rw [List.take_add_one, hx] at hy
  rcases List.mem_append.1 hy with g | g
  · exact h y g
  · simp at g; subst g; exact hp
theorem run63 {I : Nat → Option (List AV → AH → Rs)} (h63 : I 63 = none) (m : Nat) (v : AV) (l : List Rc) (w : Int) (h : AH) (hr : RowC 7 h v l.length (rcs l)) (hn : l.length ≤ m + 10 ∧ l.length ≤ 1000000) : call F I T (m + 20) 63 [v, .int .i64 w] h = some (.int .i64 (atR l w), h) := by
  have hlen : ∀ h, aLen T 101 v h = some (.int .i64 (l.length : Nat)) := fun h => hr.len T101 d101
  rw [call_F (by decide) h63 F63 rfl R63]; simp only [Tryd.f63, Option.getD]
  simp +contextual (maxSteps := 3000000) only [↓code_seq, ↓code_region, ↓code_block, ↓code_loop, ↓ops_nil, ↓ops_cons, run_none, ↓run0_v, ↓seqK_normal, ev_const, oc_int, o_assign, g_none]
  refine iterL_wp (Q := fun r => r = some (.int .i64 (atR l w), h)) (N := l.length) (Inv := fun k e h' => ∃ i, k + i = l.length ∧ h' = h ∧ i ≤ l.length ∧ (l.take i).findIdx? (fun c => decide (c.who = w)) = none ∧ e 0 = v ∧ e 1 = .int .i64 w ∧ e 5 = .int .i64 (i : Nat)) ?_ ?_ (by omega)
  · rintro k e h' K' ⟨i, hk, hh, hil, hf, e0, e1, e5⟩ hnext hexit
    subst hh
    by_cases hi : i < l.length
    · have c1 : (i : Int) < (l.length : Int) := by omega
      obtain ⟨x, hx⟩ : ∃ x, l[i]? = some x := ⟨l[i], List.getElem?_eq_getElem hi⟩
      obtain ⟨b, cs, kk, g1, g2, g3, g4, g5, g6, _⟩ := loadC hr hx
      have c7 : IntKind.i64.wrap ((i : Int) + 1) = ((i + 1 : Nat) : Int) := by rw [wrap_i64 (by omega) (by omega)]; rfl
      by_cases hw : x.who = w
      · simp +contextual (maxSteps := 3000000) only [↓code_skip, ↓code_seq, ↓code_region, ↓code_cond, ↓code_block, ↓code_ret, aCond_bool, ↓ops_nil, ↓ops_cons, run_none, ↓run0_v, ↓seqK_normal, ↓seqK_ret, ↓blkK_ret, put_same, put_ne, ev_tmp, o_move, o_assign, o_bin, o_len, o_load, o_fieldAddr, o_indexAddr, g_none, bin_eql, bin_lss, decide_eq_true_eq, ↓reduceIte, Nat.reduceEqDiff, not_false_eq_true, reduceCtorEq, ne_eq, fa_ptr T106 p106_0 (by decide), load_p1 T3 a3, loadc_def, e0, e1, e5, c1, hlen, g1, g2, g6, eq_true hw]
        refine hexit _ _ _ (by simp) ?_
        simp +contextual (maxSteps := 3000000) only [↓seqK_ret, ↓blkK_ret, ↓retK_ret, put_same, resultsOf, oneOrAll, Option.map_some]
        unfold atR; rw [find_hit hf hx (by simpa using hw)]
      · simp +contextual (maxSteps := 3000000) only [↓code_skip, ↓code_seq, ↓code_region, ↓code_cond, ↓code_block, aCond_bool, ↓ops_nil, ↓ops_cons, run_none, ↓run0_v, ↓seqK_normal, ↓blkK_normal, put_same, put_ne, ev_tmp, ev_const, oc_int, o_move, o_assign, o_bin, o_len, o_load, o_fieldAddr, o_indexAddr, g_none, bin_add, bin_eql, bin_lss, decide_eq_true_eq, ↓reduceIte, Nat.reduceEqDiff, not_false_eq_true, reduceCtorEq, ne_eq, fa_ptr T106 p106_0 (by decide), load_p1 T3 a3, loadc_def, e0, e1, e5, c1, hlen, g1, g2, g6, hw, c7]
        refine hnext (k - 1) _ _ (by omega) ⟨i + 1, by omega, ?_, ?_, ?_, ?_, ?_, ?_⟩
        · rfl
        · omega
        · exact find_miss hf hx (by simpa using hw)
        · simp only [put_ne, not_false_eq_true, reduceCtorEq, ne_eq, e0]
        · simp only [put_ne, Nat.reduceEqDiff, not_false_eq_true, ne_eq, e1]
        · simp only [put_same]
    · have c1 : ¬ (i : Int) < (l.length : Int) := by omega
      have htl : l.take i = l := List.take_of_length_le (by omega)
      rw [htl] at hf
      simp +contextual (maxSteps := 3000000) only [↓code_seq, ↓code_region, ↓code_cond, ↓code_exit, aCond_bool, ↓ops_nil, ↓ops_cons, run_none, ↓run0_v, ↓seqK_normal, ↓seqK_exit, put_same, put_ne, ev_tmp, o_move, o_bin, o_len, g_none, bin_lss, decide_eq_true_eq, ↓reduceIte, Nat.reduceEqDiff, not_false_eq_true, reduceCtorEq, ne_eq, e0, e5, c1, hlen]
      refine hexit _ _ _ (by simp) ?_
      simp +contextual (maxSteps := 3000000) only [↓code_seq, ↓code_region, ↓code_ret, ↓ops_nil, ↓ops_cons, run_none, ↓run0_v, ↓seqK_normal, ↓blkK_exit, ↓retK_ret, put_same, ev_const, oc_int, o_assign, g_none, resultsOf, oneOrAll, Option.map_some, ↓reduceIte]
      unfold atR; rw [hf]
  · refine ⟨0, by omega, ?_, ?_, ?_, ?_, ?_, ?_⟩
    · rfl
    · omega
    · rfl
    · simp only [put_ne, env0_at, Option.getD_some, not_false_eq_true, reduceCtorEq, List.getElem?_cons_zero, ne_eq]
    · simp only [put_ne, env0_at, Option.getD_some, Nat.reduceEqDiff, not_false_eq_true, List.getElem?_cons_zero, List.getElem?_cons_succ, ne_eq]
    · simp only [put_same]; rfl
theorem run66 {I : Nat → Option (List AV → AH → Rs)} (h66 : I 66 = none) (m : Nat) (v : AV) (l : List Rc) (h : AH) (hr : RowC 7 h v l.length (rcs l)) (hn : l.length ≤ m + 10 ∧ l.length ≤ 1000000) :
    ∃ v2 h2, call F I T (m + 20) 66 [v] h = some (v2, h2) ∧ RowC 1 h2 v2 l.length (l.map fun c => .int .i64 c.who) ∧ Fresh h v2 ∧ Grow h h2 := by
  have hlen : ∀ h, aLen T 101 v h = some (.int .i64 (l.length : Nat)) := fun h => hr.len T101 d101
  rw [call_F (by decide) h66 F66 rfl R66]; simp only [Tryd.f66, Option.getD]
  simp +contextual (maxSteps := 3000000) only [↓code_seq, ↓code_region, ↓code_block, ↓code_loop, ↓ops_nil, ↓ops_cons, run_none, ↓run0_v, ↓seqK_normal, ev_const, oc_int, oc_nils, o_assign, g_none]
  refine iterL_wp (Q := fun r => ∃ v2 h2, r = some (v2, h2) ∧ RowC 1 h2 v2 l.length (l.map fun c => .int .i64 c.who) ∧ Fresh h v2 ∧ Grow h h2) (N := l.length) (Inv := fun k e h' => ∃ i w, k + i = l.length ∧ RowC 1 h' w i ((l.take i).map fun c => .int .i64 c.who) ∧ Fresh h w ∧ Grow h h' ∧ i ≤ l.length ∧ e 0 = v ∧ e 3 = w ∧ e 4 = .int .i64 (i : Nat)) ?_ ?_ (show l.length < m + 19 by omega)
  · rintro k e h' K' ⟨i, w, hk, hw, hf, hg, hil, e0, e3, e4⟩ hnext hexit
    by_cases hi : i < l.length
    · have c1 : (i : Int) < (l.length : Int) := by omega
      obtain ⟨x, hx⟩ : ∃ x, l[i]? = some x := ⟨l[i], List.getElem?_eq_getElem hi⟩
      obtain ⟨b, cs, kk, g1, g2, g3, g4, g5, g6, _⟩ := loadC (hr.grow hg) hx
      have c7 : IntKind.i64.wrap ((i : Int) + 1) = ((i + 1 : Nat) : Int) := by rw [wrap_i64 (by omega) (by omega)]; rfl
      obtain ⟨w', h2, q1, q2, q3, q4⟩ := push_new (new := [.int .i64 x.who]) T31 d31 T3 s3 (by decide) (by rw [b3]; decide) hw hf hg rfl rfl (by rw [b3]; simp [maxBytes]; omega)
      have htk : (l.take (i + 1)).map (fun c => AV.int .i64 c.who) = (l.take i).map (fun c => AV.int .i64 c.who) ++ [.int .i64 x.who] := by rw [List.take_add_one, hx, List.map_append]; rfl
      rw [← htk] at q2
      simp +contextual (maxSteps := 3000000) only [↓code_skip, ↓code_seq, ↓code_region, ↓code_cond, ↓code_block, aCond_bool, ↓ops_nil, ↓ops_cons, run_none, ↓run0_v, ↓run0_r, ↓seqK_normal, ↓blkK_normal, put_same, put_ne, ev_tmp, ev_const, oc_int, o_move, o_assign, o_bin, o_len, o_buildSlice, o_load, o_fieldAddr, o_indexAddr, o_append, g_none, bin_add, bin_lss, Option.bind_some, decide_eq_true_eq, ↓reduceIte, Nat.reduceEqDiff, not_false_eq_true, Nat.reduceAdd, Nat.reduceMul, reduceCtorEq, Nat.succ_ne_self, List.map_cons, List.map_nil, List.append_nil, List.nil_append, and_true, Nat.le_refl, ne_eq, fa_ptr T106 p106_0 (by decide), load_p1 T3 a3, loadc_def, buildSl T31 d31 T3 (n := 1) (by rw [s3]; decide), s3, z3, parts_eq, fillA, AV.cells, AH.splice, List.take_zero, List.drop_succ_cons, List.drop_nil, List.length_cons, List.length_nil, repl, e0, e3, e4, c1, hlen, g1, g2, g6, q1, c7]
      refine hnext (k - 1) _ _ (by omega) ⟨i + 1, w', by omega, ?_, ?_, ?_, ?_, ?_, ?_, ?_⟩
      · exact q2
      · exact q3
      · exact q4
      · omega
      · simp only [put_ne, not_false_eq_true, reduceCtorEq, ne_eq, e0]
      · simp only [put_same, put_ne, Nat.reduceEqDiff, not_false_eq_true, ne_eq]
      · simp only [put_same]
    · have c1 : ¬ (i : Int) < (l.length : Int) := by omega
      have htl : l.take i = l := List.take_of_length_le (by omega)
      rw [htl] at hw
      simp +contextual (maxSteps := 3000000) only [↓code_seq, ↓code_region, ↓code_cond, ↓code_exit, aCond_bool, ↓ops_nil, ↓ops_cons, run_none, ↓run0_v, ↓seqK_normal, ↓seqK_exit, put_same, put_ne, ev_tmp, o_move, o_bin, o_len, g_none, bin_lss, decide_eq_true_eq, ↓reduceIte, Nat.reduceEqDiff, not_false_eq_true, reduceCtorEq, ne_eq, e0, e4, c1, hlen]
      refine hexit _ _ _ (by simp) ⟨w, h', ?_, by rw [show l.length = i by omega]; exact hw, hf, hg⟩
      simp +contextual (maxSteps := 3000000) only [↓code_seq, ↓code_region, ↓code_ret, ↓ops_nil, ↓ops_cons, run_none, ↓run0_v, ↓seqK_normal, ↓blkK_exit, ↓retK_ret, put_same, put_ne, ev_tmp, o_move, o_assign, g_none, resultsOf, oneOrAll, Option.map_some, ↓reduceIte, Nat.reduceEqDiff, not_false_eq_true, ne_eq, e3]
  · refine ⟨0, .nils, by omega, ?_, ?_, ?_, ?_, ?_, ?_, ?_⟩
    · exact RowC.nil _ _
    · (intro b o l k z x e; cases e)
    · exact Grow.refl h
    · omega
    · simp only [put_ne, env0_at, Option.getD_some, not_false_eq_true, reduceCtorEq, List.getElem?_cons_zero, ne_eq]
    · simp only [put_same, put_ne, Nat.reduceEqDiff, not_false_eq_true, ne_eq]
    · simp only [put_same]; rfl
theorem rcs_one {l : List Rc} (ho : ∀ c ∈ l, c.av.all AV.one = true) : (rcs l).all AV.one = true := by
  rw [List.all_eq_true]
  intro v hv
  obtain ⟨c, hc, hv⟩ := List.mem_flatMap.1 hv
  exact List.all_eq_true.1 (ho c hc) v hv
theorem run64 {I : Nat → Option (List AV → AH → Rs)} (h64 : I 64 = none) (m k : Nat) (v : AV) (l : List Rc) (h : AH) (hr : RowC 7 h v l.length (rcs l)) (hk : k < l.length) (hl : l.length ≤ 100000) (ho : ∀ c ∈ l, c.av.all AV.one = true) :
    ∃ v2 h2, call F I T (m + 5) 64 [v, .int .i64 (k : Nat)] h = some (v2, h2) ∧ RowC 7 h2 v2 (l.eraseIdx k).length (rcs (l.eraseIdx k)) ∧ Fresh h v2 ∧ Grow h h2 := by
  have ho1 : ∀ c ∈ l.take k, c.av.all AV.one = true := fun c hc => ho c (List.mem_of_mem_take hc)
  have ho2 : ∀ c ∈ l.drop (k + 1), c.av.all AV.one = true := fun c hc => ho c (List.mem_of_mem_drop hc)
  rcases hr with ⟨rfl, h0, _⟩ | ⟨b, cap, ex, rest, rfl, h1, h2, h3, h4⟩
  · omega
  have hcl := fl_len Rc.av 7 Rc.len l
  have hcap : l.length ≤ cap := by
    have : l.length * 7 ≤ cap * 7 := by omega
    omega
  obtain ⟨H1, hH1⟩ : ∃ H1, H1 = h.alloc (.cells [] .own) := ⟨_, rfl⟩
  have n1 : H1.next = h.next + 1 := by rw [hH1]; rfl
  have b1 : H1.get b = some (.cells (rcs l ++ rest) .own) := by rw [hH1, AH.get_alloc, if_neg (by omega)]; exact h4
  have r1 : RowC 7 H1 (.sl h.next 0 0 0 7 true) 0 [] := .inr ⟨h.next, 0, true, [], rfl, rfl, rfl, by omega, by rw [hH1, AH.get_alloc, if_pos rfl]; rfl⟩
  have s1 : aSlice T 101 (.sl b 0 l.length cap 7 ex) none (some (.int .i64 (k : Nat))) none = some (.sl b 0 k cap 7 ex) := by
    simp only [aSlice, T101, d101, T106, s106, bnd]
    simp
    omega
  have s2 : aSlice T 101 (.sl b 0 l.length cap 7 ex) (some (.int .i64 ((k + 1 : Nat) : Int))) none none = some (.sl b ((k + 1) * 7) (l.length - (k + 1)) (cap - (k + 1)) 7 ex) := by
    have y1 : (0 : Int) ≤ ((k + 1 : Nat) : Int) := by omega
    have y2 : ((k + 1 : Nat) : Int).toNat = k + 1 := rfl
    simp only [aSlice, T101, d101, T106, s106, bnd, y1, y2, if_true]
    rw [if_pos ⟨by omega, hcap, Nat.le_refl _, trivial, by simp⟩]
    simp
  obtain ⟨v1, H2, q1, q2, q3, q4, q5⟩ := r1.app' (x := .sl b 0 k cap 7 ex) (new := rcs (l.take k)) (m := k) (xt := 101) T101 d101 T106 (isSrc_sl T101 d101) s106 (by decide) (by rw [b106]; decide)
    (by
      rw [s106, src_sl]
      simp only [AH.loadn, b1]
      rw [if_pos (by rw [List.length_append, hcl]; omega)]
      rw [List.drop_zero, List.take_append_of_le_length (by rw [hcl]; omega), fl_take Rc.av 7 Rc.len]; rfl)
    (by rw [fl_len Rc.av 7 Rc.len, List.length_take]; congr 1; omega) (rcs_one ho1) (by rw [b106]; simp [maxBytes]; omega)
  have off1 : offRow (.sl h.next 0 0 0 7 true) b := fun b' o' l' k' z' x' e => by cases e; omega
  have b2 : H2.get b = some (.cells (rcs l ++ rest) .own) := by rw [q4 b (by omega) off1]; exact b1
  have f1 : ∀ b' o l k z x, v1 = .sl b' o l k z x → h.next ≤ b' := fun b' o l k z x e => by
    rcases q5 _ _ _ _ _ _ e with g | ⟨_, _, _, _, _, g⟩
    · omega
    · cases g; exact Nat.le_refl _
  obtain ⟨v2, H3, t1, t2, t3, t4, t5⟩ := q2.app' (x := .sl b ((k + 1) * 7) (l.length - (k + 1)) (cap - (k + 1)) 7 ex) (new := rcs (l.drop (k + 1))) (m := l.length - (k + 1)) (xt := 101) T101 d101 T106 (isSrc_sl T101 d101) s106 (by decide) (by rw [b106]; decide)
    (by
      rw [s106, src_sl]
      simp only [AH.loadn, b2]
      rw [if_pos (by rw [List.length_append, hcl]; omega)]
      rw [List.drop_append_of_le_length (by rw [hcl]; omega), fl_drop Rc.av 7 Rc.len, List.take_append_of_le_length (by rw [fl_len Rc.av 7 Rc.len, List.length_drop]; omega), List.take_of_length_le (by rw [fl_len Rc.av 7 Rc.len, List.length_drop]; omega)]; rfl)
    (by rw [fl_len Rc.av 7 Rc.len, List.length_drop]) (rcs_one ho2) (by rw [b106]; simp [maxBytes]; omega)
  have hlen : 0 + k + (l.length - (k + 1)) = (l.eraseIdx k).length := by rw [List.length_eraseIdx, if_pos hk]; omega
  have hcs : [] ++ rcs (l.take k) ++ rcs (l.drop (k + 1)) = rcs (l.eraseIdx k) := by rw [List.nil_append, ← fl_app, List.eraseIdx_eq_take_drop_succ]
  rw [hlen, hcs] at t2
  have c7 : IntKind.i64.wrap ((k : Int) + 1) = ((k + 1 : Nat) : Int) := by rw [wrap_i64 (by omega) (by omega)]; rfl
  refine ⟨v2, H3, ?_, t2, fun b' o l k z x e => ?_, by omega, fun c hc => ?_⟩
  · rw [call_F (by decide) h64 F64 rfl R64]; simp only [Tryd.f64, Option.getD]
    simp +contextual (maxSteps := 3000000) only [↓code_seq, ↓code_region, ↓code_ret, ↓ops_nil, ↓ops_cons, run_none, ↓run0_v, ↓run0_r, ↓seqK_normal, ↓retK_ret, put_same, put_ne, env0_at, ev_tmp, ev_const, oc_int, oc_nils, o_move, o_assign, o_bin, o_buildSlice, o_slice, o_append, g_none, bin_add, resultsOf, oneOrAll, Option.bind_some, Option.map_some, Option.map_none, Option.getD_some, Nat.reduceEqDiff, not_false_eq_true, reduceCtorEq, List.getElem?_cons_zero, List.getElem?_cons_succ, List.map_nil, ne_eq, buildSl T101 d101 T106 (n := 0) (by rw [s106]; decide), s106, parts_eq, fillA, repl, s1, s2, c7, ← hH1, q1, t1]
  · rcases t5 _ _ _ _ _ _ e with g | ⟨_, _, _, _, _, g⟩
    · omega
    · exact f1 _ _ _ _ _ _ g
  · rw [t4 c (by omega) (fun b' o l k z x e => by have := f1 _ _ _ _ _ _ e; omega), q4 c (by omega) (fun b' o l k z x e => by cases e; omega), hH1, AH.get_alloc, if_neg (by omega)]
end Go.AM.X
