/- What is put: rows of bytes, a network, a text. Own work. -/
import Derived.Test.YtdehanhonfbdpaaNgtB
import Derived.Test.YtdehanhonfbdpaaNgtD
namespace Go.AM.Sx
open Go Go.AM
set_option linter.unusedSimpArgs false
set_option linter.unusedVariables false
/-- A row, or a literal that is full. -/
def RowE (sz : Nat) (h : AH) (v : AV) (n : Nat) (cs : List AV) : Prop :=
  Row sz h v n cs ∨ (∃ b, v = .sl b 0 n n sz true ∧ 0 < n ∧ cs.length = n * sz ∧ b < h.next ∧ h.get b = some (.cells cs .own))
theorem RowE.app {T : TT} {h : AH} {t xt el : Nat} {ti te : TI} {v x : AV} {n m sz : Nat} {cs new : List AV} (ht : T t = some ti) (hd : ti.desc = .slice el) (he : T el = some te) (hx : isSrc T xt = true) (hz : te.size = sz) (hb : 0 < te.bytes)
    (ho : RowE sz h v n cs) (hs : aSource te.size x h = some (m, new)) (hm : 0 < m) (hl : new.length = m * sz) (hone : new.all AV.one = true) (hsm : (n + m) * te.bytes < maxBytes) :
    ∃ b h2, aAppend T t xt v x h = some (.sl b 0 (n + m) (n + m) sz false, h2) ∧ Row sz h2 (.sl b 0 (n + m) (n + m) sz false) (n + m) (cs ++ new) ∧ h.next ≤ h2.next ∧ h.next ≤ b ∧ (∀ c, c < h.next → offRow v c → h2.get c = h.get c) := by
  rcases ho with ho | ⟨b, rfl, hn, hcl, hbn, hg⟩
  · exact ho.app ht hd he hx hz hb hs hm hl hone hsm
  · have := app_slx (h := h) (n := m) (len := n) (o := 0) ht hd he hx hs hb hz hg (by omega) (by omega) hsm
    have hcs : List.take (n * sz) (List.drop 0 cs) = cs := by rw [List.drop_zero, List.take_of_length_le (by omega)]
    rw [hcs] at this
    refine ⟨h.next, _, this, .inr ⟨h.next, rfl, by omega, by rw [List.length_append, hcl, hl, Nat.add_mul], by simp, ?_⟩, by simp, Nat.le_refl _, fun c hc hoff => ?_⟩
    · rw [AH.get_alloc, if_pos rfl]
    · rw [AH.get_alloc, if_neg (by omega)]
theorem RowE.frz {sz : Nat} {h : AH} {v : AV} {n : Nat} {cs cs' : List AV} (ho : RowE sz h v n cs) (k : Nat) (hf : frzMap (frzF false k h) cs = some cs') (hl : cs'.length = n * sz) : ∃ v0, frzF false (k + 1) h v = some v0 ∧ Wk v0 (.lst false sz n cs') := by
  rcases ho with ho | ⟨b, rfl, h1, h2', h3, h4⟩
  · exact ho.frz k hf hl
  · have h5 : List.take (n * sz) (List.drop 0 cs) = cs := by rw [List.drop_zero, List.take_of_length_le (by omega)]
    refine ⟨.lst (true && Nat.beq n n) sz n cs', ?_, Wk.lst _ _ _ _⟩
    simp only [frzF, h4, Bool.or_true, h5, hf]
    rw [if_pos (by omega)]
    simp
end Go.AM.Sx
namespace Go.AM.X
open Go Go.AM Go.Proofs Go.AM.Sx
set_option maxHeartbeats 400000
set_option maxRecDepth 100000
set_option linter.unusedSimpArgs false
set_option linter.unusedVariables false
def be2 (n : Int) : List UInt8 := [UInt8.ofNat (n.toNat / 256), UInt8.ofNat (n.toNat % 256)]
end Go.AM.X
namespace Go.AM.X
open Go Go.AM Go.Proofs Go.AM.Sx
set_option maxHeartbeats 400000
set_option maxRecDepth 100000
set_option linter.unusedSimpArgs false
set_option linter.unusedVariables false
end Go.AM.X
namespace Go.AM.X
open Go Go.AM Go.Proofs Go.AM.Sx
set_option maxHeartbeats 400000
set_option maxRecDepth 100000
set_option linter.unusedSimpArgs false
set_option linter.unusedVariables false
def putT (s : List UInt8) : List UInt8 := UInt8.ofNat s.length :: s
noncomputable def g81 := G1 vStr fun s => if isZone s = true then some (.tup [.lst false 1 (putT s).length (ofBytes (putT s)), .int .i64 0]) else none
end Go.AM.X
namespace Go.AM.X.P
open Go Go.AM Go.Proofs Go.AM.Sx Go.AM.X
set_option maxHeartbeats 800000
set_option maxRecDepth 100000
set_option linter.unusedSimpArgs false
set_option linter.unusedVariables false
/-- An entry. -/
structure Nm where
  name : Ent
  net : Int
  node : Int
  sock : Int
  enum : Int
def Nm.cells (x : Nm) : List AV := [.str x.name.o, .str x.name.t, .str x.name.z, .int .i64 x.net, .int .i64 x.node, .int .i64 x.sock, .int .i64 x.enum]
def dNm : AV → Option Nm
  | .agg [.str a, .str b, .str c, .int .i64 d, .int .i64 e, .int .i64 f, .int .i64 g] => some ⟨⟨a, b, c⟩, d, e, f, g⟩
  | _ => none
def vNm : View Nm where
  enc x := .agg x.cells
  dec := dNm
  law a x h := by
    unfold dNm at h
    split at h
    · cases h; exact Wk.refl _
    · cases h
  flat _ := rfl
theorem cells_inj {x y : Nm} {a b : List AV} (h : x.cells ++ a = y.cells ++ b) : x = y ∧ a = b := by
  obtain ⟨⟨x1, x2, x3⟩, x4, x5, x6, x7⟩ := x
  obtain ⟨⟨y1, y2, y3⟩, y4, y5, y6, y7⟩ := y
  simp only [Nm.cells, List.cons_append, List.nil_append, List.cons.injEq, AV.str.injEq, AV.int.injEq, true_and] at h
  obtain ⟨h1, h2, h3, h4, h5, h6, h7, h8⟩ := h
  subst h1 h2 h3 h4 h5 h6 h7
  exact ⟨rfl, h8⟩
theorem flat_inj : ∀ {l m : List Nm}, l.flatMap Nm.cells = m.flatMap Nm.cells → l = m
  | [], [], _ => rfl
  | [], y :: m, h => by simp [Nm.cells] at h
  | x :: l, [], h => by simp [Nm.cells] at h
  | x :: l, y :: m, h => by
    rw [List.flatMap_cons, List.flatMap_cons] at h
    obtain ⟨h1, h2⟩ := cells_inj h
    rw [h1, flat_inj h2]
def nmL (l : List Nm) : AV := .lst false 7 l.length (l.flatMap Nm.cells)
theorem flatL_app : ∀ {a b : List AV}, flatL a = true → flatL b = true → flatL (a ++ b) = true
  | [], b, _, h => h
  | x :: a, b, h1, h2 => by
    simp only [flatL, Bool.and_eq_true] at h1
    simp only [List.cons_append, flatL, Bool.and_eq_true]
    exact ⟨h1.1, flatL_app h1.2 h2⟩
theorem flat_nms : ∀ l : List Nm, flatL (l.flatMap Nm.cells) = true
  | [] => rfl
  | x :: l => by rw [List.flatMap_cons]; exact flatL_app rfl (flat_nms l)
noncomputable def dNms (v : AV) : Option (List Nm) := open Classical in if h : ∃ l, v = nmL l then some h.choose else none
noncomputable def vNms : View (List Nm) where
  enc := nmL
  dec := dNms
  law a x h := by
    unfold dNms at h
    split at h
    · rename_i hx
      cases h
      have := hx.choose_spec
      rw [← this]
      exact Wk.refl _
    · cases h
  flat l := flat_nms l
theorem dNms_enc (l : List Nm) : vNms.dec (nmL l) = some l := by
  show dNms (nmL l) = some l
  have hx : ∃ m, nmL l = nmL m := ⟨l, rfl⟩
  unfold dNms
  rw [dif_pos hx]
  have h1 : nmL l = nmL hx.choose := hx.choose_spec
  unfold nmL at h1
  rw [AV.lst.injEq] at h1
  exact congrArg some (flat_inj h1.2.2.2).symm
theorem drop_nms : ∀ {l : List Nm} {i : Nat} (h : i < l.length), (l.flatMap Nm.cells).drop (i * 7) = l[i].cells ++ (l.drop (i + 1)).flatMap Nm.cells
  | x :: l, 0, _ => by rw [Nat.zero_mul, List.drop_zero]; rfl
  | x :: l, i + 1, h => by
    have h1 : i < l.length := by simpa using h
    rw [List.flatMap_cons, show (i + 1) * 7 = x.cells.length + i * 7 by simp [Nm.cells]; omega, ← List.drop_drop, List.drop_left]
    show _ = l[i].cells ++ (l.drop (i + 1)).flatMap Nm.cells
    exact drop_nms h1
noncomputable def isKind (k : Int) (e : Ent) : Bool := if k = 3 then isName e else isPattern e
noncomputable def g108 := open Classical in G2 (vInt .i64) vEnt fun k e => if okE e then some (.bool (isKind k e)) else none
noncomputable def isEnt (k : Int) (x : Nm) : Bool := within x.net 0 65279 && within x.node 0 255 && within x.sock 1 254 && within x.enum 0 255 && isKind k x.name
noncomputable def gEnt := open Classical in G2 (vInt .i64) vNm fun k x => if okE x.name then some (.bool (isEnt k x)) else none
noncomputable def g80 := gEnt
noncomputable def g82 := gEnt
/-- A text of 1 to 31 bytes, put. -/
def isTx (s : List UInt8) : Prop := 1 ≤ s.length ∧ s.length ≤ 31
noncomputable def g81 := open Classical in G1 vStr fun s => if isTx s then some (.tup [.lst false 1 (putT s).length (ofBytes (putT s)), .int .i64 0]) else none
end Go.AM.X.P
