/- The abstract machine by simp: operations on memory and lists. Own work. -/
import Derived.Test.YtghkgkjbdfnimaaAmSimp
namespace Go.AM.Sx
open Go Go.AM
set_option linter.unusedVariables false
set_option linter.unusedSimpArgs false
section
variable {T : TT} {h : AH} {t : TypeId} {ti : TI}
theorem box_str {s} : aBox (.str s) h = some (.ptr h.next 0, h.alloc (.cells [.str s] .own)) := (rfl)
theorem box_int {k n} : aBox (.int k n) h = some (.ptr h.next 0, h.alloc (.cells [.int k n] .own)) := (rfl)
theorem box_bool {b} : aBox (.bool b) h = some (.ptr h.next 0, h.alloc (.cells [.bool b] .own)) := (rfl)
theorem box_agg {cs} : aBox (.agg cs) h = some (.ptr h.next 0, h.alloc (.cells cs .own)) := (rfl)
theorem box_lst {ex sz n cs} : aBox (.lst ex sz n cs) h = some (.ptr h.next 0, h.alloc (.cells [.lst ex sz n cs] .own)) := (rfl)
theorem box_nils : aBox .nils h = some (.ptr h.next 0, h.alloc (.cells [.nils] .own)) := (rfl)
theorem box_sl {b o l c z e} : aBox (.sl b o l c z e) h = some (.ptr h.next 0, h.alloc (.cells [.sl b o l c z e] .own)) := (rfl)
theorem box_ptr {b o} : aBox (.ptr b o) h = some (.ptr h.next 0, h.alloc (.cells [.ptr b o] .own)) := (rfl)
theorem box_fn {f a b} : aBox (.fn f a b) h = some (.ptr h.next 0, h.alloc (.cells [.fn f a b] .own)) := (rfl)

/-- A store of one cell. -/
def stm (x : Option AB) (h : AH) (b o : Nat) (v : AV) : Option AH := match x with
  | some (.cells cs .own) => if o < cs.length then some (h.put b (.cells (cs.set o v) .own)) else none
  | some (.cells cs .byt) => if o < cs.length then some (h.put b (.cells (cs.set o v) .byt)) else none
  | _ => none
theorem stm_own {h : AH} {b o : Nat} {v cs} : stm (some (.cells cs .own)) h b o v = if o < cs.length then some (h.put b (.cells (cs.set o v) .own)) else none := (rfl)
theorem stm_byt {h : AH} {b o : Nat} {v cs} : stm (some (.cells cs .byt)) h b o v = if o < cs.length then some (h.put b (.cells (cs.set o v) .byt)) else none := (rfl)
theorem st1 {b o v} (ht : T t = some ti) (hs : ti.size = 1) (hc : v.cells = some [v]) (ho : v.one = true) : aStore T t (.ptr b o) v h = stm (h.get b) h b o v := by
  have key : ∀ cs : List AV, o < cs.length → AH.splice cs o [v] = cs.set o v := fun cs hl => by simp [AH.splice, List.set_eq_take_append_cons_drop, hl]
  simp only [aStore, ht, hc, hs, List.length_cons, List.length_nil, AH.storen, stm]
  cases hg : h.get b with
  | none => rfl
  | some x =>
    cases x with
    | cells cs k =>
      by_cases hl : o < cs.length
      · have h1 : o + 1 ≤ cs.length := hl
        cases k <;> simp [ho, h1, hl, key cs hl]
      · have h1 : ¬ (o + 1 ≤ cs.length) := by omega
        cases k <;> simp [ho, h1, hl]
    | _ => rfl
theorem st_int {b o k n} (ht : T t = some ti) (hs : ti.size = 1) : aStore T t (.ptr b o) (.int k n) h = stm (h.get b) h b o (.int k n) := st1 ht hs rfl rfl
theorem st_str {b o s} (ht : T t = some ti) (hs : ti.size = 1) : aStore T t (.ptr b o) (.str s) h = stm (h.get b) h b o (.str s) := st1 ht hs rfl rfl
theorem st_bool {b o s} (ht : T t = some ti) (hs : ti.size = 1) : aStore T t (.ptr b o) (.bool s) h = stm (h.get b) h b o (.bool s) := st1 ht hs rfl rfl
theorem st_lst {b o x y z w} (ht : T t = some ti) (hs : ti.size = 1) : aStore T t (.ptr b o) (.lst x y z w) h = stm (h.get b) h b o (.lst x y z w) := st1 ht hs rfl rfl
theorem st_sl {b o x y z w p q} (ht : T t = some ti) (hs : ti.size = 1) : aStore T t (.ptr b o) (.sl x y z w p q) h = stm (h.get b) h b o (.sl x y z w p q) := st1 ht hs rfl rfl
theorem st_nils {b o} (ht : T t = some ti) (hs : ti.size = 1) : aStore T t (.ptr b o) .nils h = stm (h.get b) h b o .nils := st1 ht hs rfl rfl
/-- A store of cells. -/
def stN (x : Option AB) (h : AH) (b o : Nat) (vs : List AV) : Option AH := match x with
  | some (.cells cs .own) => if o + vs.length ≤ cs.length ∧ vs.all AV.one = true then some (h.put b (.cells (AH.splice cs o vs) .own)) else none
  | _ => none
theorem stN_own {h : AH} {b o : Nat} {vs cs} : stN (some (.cells cs .own)) h b o vs = if o + vs.length ≤ cs.length ∧ vs.all AV.one = true then some (h.put b (.cells (AH.splice cs o vs) .own)) else none := (rfl)

theorem conv_int {s d ts td k k' n} (hs : T s = some ts) (hd : T d = some td) (he : td.desc = .int k) : aConv T s d (.int k' n) h = some (.int k (k.wrap n), h) := by simp [aConv, hs, hd, he]
theorem conv_str {s d ts td l} (hs : T s = some ts) (hd : T d = some td) (he : td.desc = .string) (hf : ts.desc = .string) : aConv T s d (.str l) h = some (.str l, h) := by simp [aConv, hs, hd, he, hf]
theorem conv_bytes {s d ts td el te l} (hs : T s = some ts) (hd : T d = some td) (he : td.desc = .slice el) (hf : ts.desc = .string) (ht : T el = some te) (hu : te.desc = .int .u8) (hz : te.size = 1) :
    aConv T s d (.str l) h = if l.length < maxBytes then some (.sl h.next 0 l.length l.length 1 false, h.alloc (.cells (ofBytes l) .byt)) else none := by
  simp [aConv, hs, hd, he, hf, isU8, ht, hu, hz]
theorem conv_back {s d ts td el te ex n cs} (hs : T s = some ts) (hd : T d = some td) (he : td.desc = .string) (hf : ts.desc = .slice el) (ht : T el = some te) (hu : te.desc = .int .u8) (hz : te.size = 1) :
    aConv T s d (.lst ex 1 n cs) h = (bytesOf cs).map fun s => (.str s, h) := by simp [aConv, hs, hd, he, hf, isU8, ht, hu, hz]
theorem conv_nils {s d ts td el te} (hs : T s = some ts) (hd : T d = some td) (he : td.desc = .string) (hf : ts.desc = .slice el) (ht : T el = some te) (hu : te.desc = .int .u8) (hz : te.size = 1) :
    aConv T s d .nils h = some (.str [], h) := by simp [aConv, hs, hd, he, hf, isU8, ht, hu, hz]
theorem conv_backS {s d ts td el te b o len cap z ex} (hs : T s = some ts) (hd : T d = some td) (he : td.desc = .string) (hf : ts.desc = .slice el) (ht : T el = some te) (hu : te.desc = .int .u8) (hz : te.size = 1) :
    aConv T s d (.sl b o len cap z ex) h = match h.loadn b o len with
          | some cs => (bytesOf cs).map fun s => (.str s, h)
          | none => none := by simp [aConv, hs, hd, he, hf, isU8, ht, hu, hz]; rfl

theorem bytesOf_ofBytes : ∀ l : List UInt8, bytesOf (ofBytes l) = some l
  | [] => rfl
  | c :: l => by
    have := bytesOf_ofBytes l
    simp only [ofBytes] at this
    simp [ofBytes, bytesOf, this]

theorem build_struct {fs l} (ht : T t = some ti) (hd : ti.desc = .struct fs) : aBuild T t l = (fillA (fun i => (ti.places[i]?).map fun p => (p.1, p.2.1)) ti.zero l).map .agg := by simp [aBuild, ht, hd]
theorem build_arr {n el te l} (ht : T t = some ti) (hd : ti.desc = .array n el) (he : T el = some te) : aBuild T t l = (fillA (fun i => some (i * te.size, te.size)) ti.zero l).map .agg := by simp [aBuild, ht, hd, he]
theorem buildSl {n el te l} (ht : T t = some ti) (hd : ti.desc = .slice el) (he : T el = some te) (hn : n * te.size ≤ 16777216) :
    aBuildSlice T t n l h = (fillA (fun i => some (i * te.size, te.size)) (repl te.zero n) l).bind fun cs => some (.sl h.next 0 n n te.size true, h.alloc (.cells cs .own)) := by
  simp only [aBuildSlice, ht, hd, he, if_pos hn]
  cases fillA (fun i => some (i * te.size, te.size)) (repl te.zero n) l <;> rfl
theorem fill_nil {p cells} : fillA p cells [] = some cells := (rfl)
theorem fill_cons {p cells i v rest off size cs} (hp : p i = some (off, size)) (hc : AV.cells v = some cs) (h1 : cs.length = size) (h2 : off + cs.length ≤ cells.length) :
    fillA p cells ((i, v) :: rest) = fillA p (AH.splice cells off cs) rest := by
  simp only [fillA, hp, hc]
  rw [if_pos ⟨h1, h2⟩]
theorem parts_eq {e : Env} {ps : Array (Nat × Operand)} : parts e ps = ps.toList.map fun p => (p.1, ev e p.2) := (rfl)

/-- What is appended. -/
theorem src_nils {sz} : aSource sz .nils h = some (0, []) := (rfl)
theorem src_lst {sz ex n cs} : aSource sz (.lst ex sz n cs) h = some (n, cs) := by simp [aSource]
theorem src_str {s} : aSource 1 (.str s) h = some (s.length, ofBytes s) := by simp [aSource]
theorem src_sl {sz b o len cap ex} : aSource sz (.sl b o len cap sz ex) h = (h.loadn b o (len * sz)).map fun cs => (len, cs) := by simp [aSource]

theorem app_nils {xt el te x n new} (ht : T t = some ti) (hd : ti.desc = .slice el) (he : T el = some te) (hx : isSrc T xt = true) (hs : aSource te.size x h = some (n, new)) (hb : 0 < te.bytes) (hn : n ≠ 0) (hm : n * te.bytes < maxBytes) :
    aAppend T t xt .nils x h = some (.sl h.next 0 n n te.size false, h.alloc (.cells new .own)) := by
  simp only [aAppend, ht, hd, he, hx, hs]
  rw [if_neg hn, if_pos ⟨hb, hm⟩]
/-- An append to a row of the call's own, whose room is not known. -/
theorem app_sl {xt el te x n new b o len sz cs} (ht : T t = some ti) (hd : ti.desc = .slice el) (he : T el = some te) (hx : isSrc T xt = true) (hs : aSource te.size x h = some (n, new)) (hb : 0 < te.bytes) (hz : te.size = sz)
    (hg : h.get b = some (.cells cs .own)) (hl : o + len * sz ≤ cs.length) (hn : n ≠ 0) (hm : (len + n) * te.bytes < maxBytes) (ho : new.all AV.one = true) :
    aAppend T t xt (.sl b o len len sz false) x h = some (.sl h.next 0 (len + n) (len + n) sz false, (h.put b .dead).alloc (.cells ((cs.drop o).take (len * sz) ++ new) .own)) := by
  simp only [aAppend, ht, hd, he, hx, hs]
  rw [if_pos hz, if_neg (by omega), if_pos ⟨hb, hm⟩]
  simp only [hg]
  rw [if_pos hl]
  simp only [ho, if_true]
/-- An append to a row of the call's own that is full. -/
theorem app_slx {xt el te x n new b o len sz cs k} (ht : T t = some ti) (hd : ti.desc = .slice el) (he : T el = some te) (hx : isSrc T xt = true) (hs : aSource te.size x h = some (n, new)) (hb : 0 < te.bytes) (hz : te.size = sz)
    (hg : h.get b = some (.cells cs k)) (hl : o + len * sz ≤ cs.length) (hn : n ≠ 0) (hm : (len + n) * te.bytes < maxBytes) :
    aAppend T t xt (.sl b o len len sz true) x h = some (.sl h.next 0 (len + n) (len + n) sz false, h.alloc (.cells ((cs.drop o).take (len * sz) ++ new) .own)) := by
  simp only [aAppend, ht, hd, he, hx, hs]
  rw [if_pos hz, if_neg (by omega), if_pos ⟨hb, hm⟩]
  simp only [hg]
  rw [if_pos hl]
/-- Nothing is appended. -/
theorem app_none {xt el te x new b o len cap ex sz cs k} (ht : T t = some ti) (hd : ti.desc = .slice el) (he : T el = some te) (hx : isSrc T xt = true) (hs : aSource te.size x h = some (0, new)) (hz : te.size = sz) (hlc : len ≤ cap)
    (hg : h.get b = some (.cells cs k)) (hk : k ≠ .ro) (hl : o + len * sz ≤ cs.length) (hw : new = []) :
    ∃ h', aAppend T t xt (.sl b o len cap sz ex) x h = some (.sl b o len cap sz ex, h') ∧ h' = h.put b (.cells cs k) := by
  subst hw
  simp only [aAppend, ht, hd, he, hx, hs]
  rw [if_pos hz, if_pos (by omega)]
  have h1 : AH.splice cs (o + len * sz) [] = cs := by simp [AH.splice]
  refine ⟨h.put b (.cells cs k), ?_, rfl⟩
  cases k with
  | ro => exact absurd rfl hk
  | own => simp [AH.storen, hg, hl, h1]
  | byt => simp [AH.storen, hg, hl, h1]
theorem app_lst {xt el te x n new len sz cs} (ht : T t = some ti) (hd : ti.desc = .slice el) (he : T el = some te) (hx : isSrc T xt = true) (hs : aSource te.size x h = some (n, new)) (hb : 0 < te.bytes) (hz : sz = te.size)
    (hn : n ≠ 0) (hm : (len + n) * te.bytes < maxBytes) :
    aAppend T t xt (.lst true sz len cs) x h = some (.sl h.next 0 (len + n) (len + n) sz false, h.alloc (.cells (cs ++ new) .own)) := by
  simp only [aAppend, ht, hd, he, hx, hs]
  rw [if_neg hn]
  simp only [true_and]
  rw [if_pos ⟨hz, hb, hm⟩]
theorem isSrc_sl {el} (ht : T t = some ti) (hd : ti.desc = .slice el) : isSrc T t = true := by simp [isSrc, ht, hd]
theorem isSrc_str (ht : T t = some ti) (hd : ti.desc = .string) : isSrc T t = true := by simp [isSrc, ht, hd]
end
end Go.AM.Sx
