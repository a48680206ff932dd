/- The program of this seat, as the abstract machine has it: its functions, its types. Own work. -/
import Derived.Test.YtplanafgphadaaaProg
import Derived.Test.YtplanafgphadaaaAmOpen
import Derived.Test.YtplanafgphadaaaAmSimp4
import Derived.Test.YtplanafgphadaaaAmInt2
import Derived.KernelRfl
namespace Go.AM.X
open Go Go.AM Go.Proofs Go.AM.Sx
noncomputable def F := Fof Try.prog
noncomputable def T := tiOf Try.prog
theorem hT : TAgree Try.prog T := tiOf_agree _
theorem hF : FAgree Try.prog F := Fof_agree _
theorem hmix : Try.prog.follows .mixedOrders = true := by decide +kernel
noncomputable def tt3 : TI := (T 3).getD ⟨.bool, 0, 0, [], false, [], [], none⟩
theorem T3 : T 3 = some tt3 := by kernel_rfl
theorem d3 : tt3.desc = .int .i64 := by kernel_rfl
theorem b3 : tt3.bytes = 8 := by kernel_rfl
theorem a3 : tt3.agg = false := by kernel_rfl
noncomputable def tt4 : TI := (T 4).getD ⟨.bool, 0, 0, [], false, [], [], none⟩
theorem a4 : tt4.agg = false := by kernel_rfl
noncomputable def tt5 : TI := (T 5).getD ⟨.bool, 0, 0, [], false, [], [], none⟩
theorem T5 : T 5 = some tt5 := by kernel_rfl
theorem d5 : tt5.desc = .int .u8 := by kernel_rfl
theorem s5 : tt5.size = 1 := by kernel_rfl
theorem b5 : tt5.bytes = 1 := by kernel_rfl
theorem a5 : tt5.agg = false := by kernel_rfl
theorem z5 : tt5.zero = [.int .u8 0] := by kernel_rfl
noncomputable def tt9 : TI := (T 9).getD ⟨.bool, 0, 0, [], false, [], [], none⟩
theorem T9 : T 9 = some tt9 := by kernel_rfl
theorem d9 : tt9.desc = .string := by kernel_rfl
noncomputable def tt25 : TI := (T 25).getD ⟨.bool, 0, 0, [], false, [], [], none⟩
theorem T25 : T 25 = some tt25 := by kernel_rfl
theorem s25 : tt25.size = 1 := by kernel_rfl
theorem a25 : tt25.agg = false := by kernel_rfl
theorem z25 : tt25.zero = [.int .i64 0] := by kernel_rfl
noncomputable def tt33 : TI := (T 33).getD ⟨.bool, 0, 0, [], false, [], [], none⟩
theorem T33 : T 33 = some tt33 := by kernel_rfl
theorem d33 : tt33.desc = .slice 92 := by kernel_rfl
theorem s33 : tt33.size = 1 := by kernel_rfl
theorem a33 : tt33.agg = false := by kernel_rfl
theorem z33 : tt33.zero = [.nils] := by kernel_rfl
noncomputable def tt34 : TI := (T 34).getD ⟨.bool, 0, 0, [], false, [], [], none⟩
theorem T34 : T 34 = some tt34 := by kernel_rfl
theorem d34 : tt34.desc = .slice 5 := by kernel_rfl
theorem a34 : tt34.agg = false := by kernel_rfl
noncomputable def tt90 : TI := (T 90).getD ⟨.bool, 0, 0, [], false, [], [], none⟩
theorem T90 : T 90 = some tt90 := by kernel_rfl
theorem d90 : tt90.desc = .struct (fieldsD tt90.desc).toArray := by kernel_rfl
theorem s90 : tt90.size = 3 := by kernel_rfl
theorem a90 : tt90.agg = true := by kernel_rfl
theorem z90 : tt90.zero = [.int .i64 0, .int .i64 0, .int .i64 0] := by kernel_rfl
theorem p90_0 : tt90.places[0]? = some (0, 1, false) := by kernel_rfl
theorem p90_1 : tt90.places[1]? = some (1, 1, false) := by kernel_rfl
theorem p90_2 : tt90.places[2]? = some (2, 1, false) := by kernel_rfl
noncomputable def tt92 : TI := (T 92).getD ⟨.bool, 0, 0, [], false, [], [], none⟩
theorem T92 : T 92 = some tt92 := by kernel_rfl
theorem d92 : tt92.desc = .struct (fieldsD tt92.desc).toArray := by kernel_rfl
theorem s92 : tt92.size = 4 := by kernel_rfl
theorem b92 : tt92.bytes = 32 := by kernel_rfl
theorem a92 : tt92.agg = true := by kernel_rfl
theorem z92 : tt92.zero = [.int .i64 0, .int .i64 0, .int .i64 0, .int .i64 0] := by kernel_rfl
theorem p92_0 : tt92.places[0]? = some (0, 1, false) := by kernel_rfl
theorem p92_1 : tt92.places[1]? = some (1, 3, true) := by kernel_rfl
end Go.AM.X
namespace Go.AM.X
open Go Go.AM Go.Proofs Go.AM.Sx
set_option maxHeartbeats 400000
set_option maxRecDepth 100000
set_option linter.unusedVariables false
theorem awake11 : isT (call F noI T 60 11 [] e0) = true := by kernel_rfl
noncomputable def g11 : List AV → Option AV
  | [] => some (.bool true)
  | _ => none
noncomputable def I1 := addI noI 11 (pureG g11)
theorem A1 : IAgree Try.prog I1 := by
  obtain ⟨fi, hfi⟩ : ∃ fi, F 11 = some fi := Option.isSome_iff_exists.1 (by kernel_rfl)
  refine pure_agree hT hmix hF (noI_agree _) (by decide) fi hfi fun args v hg _ => ?_
  unfold g11 at hg
  split at hg
  · cases hg
    obtain ⟨h', hc⟩ := isT_some awake11
    exact ⟨[], 60, 3, h', .bool true, .bool true, WkL.nil, hc, by simp [frzF, AV.flat], Wk.refl _⟩
  · cases hg
theorem K11 {I : Nat → Option (List AV → AH → Rs)} (h11 : I 11 = some (pureG g11)) (m : Nat) (h : AH) : call F I T (m + 1) 11 [] h = some (.bool true, h) := by
  rw [call_I (by decide) h11]; simp [pureG, flatL, g11]
end Go.AM.X
namespace Go.AM.X
open Go Go.AM Go.Proofs Go.AM.Sx
set_option maxHeartbeats 400000
set_option linter.unusedVariables false
/-- An event. -/
structure Ev where
  d : Int
  lo : Int
  hi : Int
  di : Int
def Ev.av (x : Ev) : List AV := [.int .i64 x.d, .int .i64 x.lo, .int .i64 x.hi, .int .i64 x.di]
theorem Ev.len (x : Ev) : x.av.length = 4 := rfl
theorem Ev.one (x : Ev) : x.av.all AV.one = true := rfl
def okT (lo hi di : Int) : Bool := decide (1 ≤ lo) && decide (lo ≤ hi) && decide (hi ≤ 65279) && decide (0 ≤ di) && decide (di ≤ 15)
def okEv (x : Ev) : Bool := decide (0 ≤ x.d) && decide (x.d ≤ 2) && okT x.lo x.hi x.di
def evB (x : Ev) : List Int := [x.d, x.lo / 256, x.lo % 256, x.hi / 256, x.hi % 256, x.di]
def putE (l : List Ev) : List Int × Int := if (1 ≤ l.length ∧ l.length ≤ 4) ∧ l.all okEv = true then (l.flatMap evB, 0) else ([], 2)
def getEv : List Int → Ev
  | [a, b, c, d, e, f] => ⟨a, 256 * b + c, 256 * d + e, f⟩
  | _ => ⟨0, 0, 0, 0⟩
def chunkE (l : List Int) : Nat → List Ev
  | 0 => []
  | k + 1 => getEv (l.take 6) :: chunkE (l.drop 6) k
/-- What is read of bytes: the events, or none. -/
def getE (b : List Int) : Option (List Ev) := if (b.length ≠ 0 ∧ b.length % 6 = 0 ∧ b.length ≤ 24) ∧ (chunkE b (b.length / 6)).all okEv = true then some (chunkE b (b.length / 6)) else none
theorem evB_len (x : Ev) : (evB x).length = 6 := rfl
theorem evs_len (l : List Ev) : (l.flatMap evB).length = 6 * l.length := by
  induction l with
  | nil => rfl
  | cons x l ih => rw [List.flatMap_cons, List.length_append, ih, evB_len, List.length_cons]; omega
theorem chunk_evs (l : List Ev) : chunkE (l.flatMap evB) l.length = l := by
  induction l with
  | nil => rfl
  | cons x l ih =>
    rw [List.flatMap_cons, List.length_cons]
    simp only [chunkE]
    rw [show (evB x ++ l.flatMap evB).take 6 = evB x by rw [← evB_len x, List.take_left], show (evB x ++ l.flatMap evB).drop 6 = l.flatMap evB by rw [← evB_len x, List.drop_left], ih]
    congr 1
    obtain ⟨d, lo, hi, di⟩ := x
    simp only [evB, getEv, Ev.mk.injEq, true_and, and_true]
    omega
theorem back_evs {l : List Ev} (h : (1 ≤ l.length ∧ l.length ≤ 4) ∧ l.all okEv = true) : getE (l.flatMap evB) = some l := by
  unfold getE
  rw [evs_len, show 6 * l.length / 6 = l.length by omega, chunk_evs, if_pos ⟨⟨by omega, by omega, by omega⟩, h.2⟩]
theorem okEv_bytes {x : Ev} (h : okEv x = true) : ∀ b ∈ evB x, 0 ≤ b ∧ b ≤ 255 := by
  simp only [okEv, okT, Bool.and_eq_true, decide_eq_true_eq] at h
  intro b hb
  simp only [evB, List.mem_cons, List.not_mem_nil, or_false] at hb
  omega
theorem chunk_get {l : List Int} {k i : Nat} (hi : i < k) : (chunkE l k)[i]? = some (getEv ((l.drop (6 * i)).take 6)) := by
  induction k generalizing l i with
  | zero => omega
  | succ k ih =>
    cases i with
    | zero => simp [chunkE]
    | succ i =>
      simp only [chunkE, List.getElem?_cons_succ]
      rw [ih (by omega), List.drop_drop]
      congr 4; omega
theorem chunk_len (l : List Int) (k : Nat) : (chunkE l k).length = k := by
  induction k generalizing l with
  | zero => rfl
  | succ k ih => simp [chunkE, ih]
end Go.AM.X
namespace Go.AM.Sx
open Go Go.AM
set_option linter.unusedVariables false
/-- A row of the call's own, with room behind it. -/
def RowC (sz : Nat) (h : AH) (v : AV) (n : Nat) (cs : List AV) : Prop :=
  (v = .nils ∧ n = 0 ∧ cs = []) ∨ ∃ b cap ex rest, v = .sl b 0 n cap sz ex ∧ cs.length = n * sz ∧ cs.length + rest.length = cap * sz ∧ b < h.next ∧ h.get b = some (.cells (cs ++ rest) .own)
theorem RowC.nil (sz : Nat) (h : AH) : RowC sz h .nils 0 [] := .inl ⟨rfl, rfl, rfl⟩
theorem RowC.cs_len {sz n : Nat} {h : AH} {v : AV} {cs : List AV} (hr : RowC sz h v n cs) : cs.length = n * sz := by
  rcases hr with ⟨_, rfl, rfl⟩ | ⟨b, cap, ex, rest, _, h1, _⟩
  · simp
  · exact h1
theorem RowC.lt {sz n : Nat} {h : AH} {v : AV} {cs : List AV} (hr : RowC sz h v n cs) {b o l k z : Nat} {x : Bool} (hv : v = .sl b o l k z x) : b < h.next := by
  rcases hr with ⟨rfl, _⟩ | ⟨b', cap, ex, rest, rfl, _, _, h3, _⟩
  · cases hv
  · cases hv; exact h3
theorem RowC.keep {sz n : Nat} {h h2 : AH} {v : AV} {cs : List AV} (hr : RowC sz h v n cs) (hn : h.next ≤ h2.next) (hk : ∀ b o l k z x, v = .sl b o l k z x → h2.get b = h.get b) : RowC sz h2 v n cs := by
  rcases hr with h | ⟨b, cap, ex, rest, rfl, h1, h2', h3, h4⟩
  · exact .inl h
  · exact .inr ⟨b, cap, ex, rest, rfl, h1, h2', by omega, by rw [hk _ _ _ _ _ _ rfl]; exact h4⟩
theorem RowC.len {T : TT} {t el : Nat} {ti : TI} {sz n : Nat} {h h2 : AH} {v : AV} {cs : List AV} (ht : T t = some ti) (hd : ti.desc = .slice el) (hr : RowC sz h v n cs) : aLen T t v h2 = some (.int .i64 (n : Nat)) := by
  rcases hr with ⟨rfl, rfl, _⟩ | ⟨b, cap, ex, rest, rfl, _⟩
  · simp [aLen, ht, hd]
  · simp [aLen, ht, hd]
theorem RowC.cells {sz n : Nat} {h : AH} {v : AV} {cs : List AV} (hr : RowC sz h v n cs) : v.cells = some [v] ∧ v.one = true := by
  rcases hr with ⟨rfl, _⟩ | ⟨b, cap, ex, rest, rfl, _⟩ <;> exact ⟨rfl, rfl⟩
theorem RowC.push {T : TT} {t el : Nat} {ti te : TI} {sz n : Nat} {h : AH} {v : AV} {cs new : List AV} (ht : T t = some ti) (hd : ti.desc = .slice el) (he : T el = some te) (hz : te.size = sz) (hs0 : 0 < sz) (hb : 0 < te.bytes) (hr : RowC sz h v n cs)
    (hl : new.length = sz) (hone : new.all AV.one = true) (hsm : (n + 1) * te.bytes < maxBytes) :
    ∃ v' h2, aAppend T t t v (.sl h.next 0 1 1 sz true) (h.alloc (.cells new .own)) = some (v', h2) ∧ RowC sz h2 v' (n + 1) (cs ++ new) ∧ h.next + 1 ≤ h2.next ∧ (∀ c, c < h.next → offRow v c → h2.get c = h.get c) ∧
      (∀ b o l k z x, v' = .sl b o l k z x → h.next ≤ b ∨ ∃ o l k z x, v = .sl b o l k z x) := by
  have hsrc : aSource te.size (.sl h.next 0 1 1 sz true) (h.alloc (.cells new .own)) = some (1, new) := by
    rw [hz, src_sl]
    simp only [AH.loadn, AH.get_alloc, if_true]
    rw [if_pos (by omega), List.drop_zero, List.take_of_length_le (by omega)]
    rfl
  have hcn := hr.cs_len
  rcases hr with ⟨rfl, rfl, rfl⟩ | ⟨b, cap, ex, rest, rfl, h1, h2, h3, h4⟩
  · have := app_nils (T := T) (h := h.alloc (.cells new .own)) ht hd he (isSrc_sl ht hd) hsrc hb (by omega) (by simpa using hsm)
    rw [hz] at this
    refine ⟨_, _, this, .inr ⟨h.next + 1, 1, false, [], rfl, by simp [hl], by simp [hl], by simp, by rw [AH.get_alloc, if_pos (by simp)]; simp⟩, by simp, fun c hc _ => ?_, fun b o l k z x hv => by cases hv; exact .inl (by simp)⟩
    rw [AH.get_alloc, if_neg (by simp; omega), AH.get_alloc, if_neg (by omega)]
  · have hg : (h.alloc (.cells new .own)).get b = some (.cells (cs ++ rest) .own) := by rw [AH.get_alloc, if_neg (by omega)]; exact h4
    by_cases hc : n + 1 ≤ cap
    · have hrl : sz ≤ rest.length := by
        have : (n + 1) * sz ≤ cap * sz := Nat.mul_le_mul_right _ hc
        rw [Nat.add_mul, Nat.one_mul] at this; omega
      have hsp : AH.splice (cs ++ rest) (n * sz) new = cs ++ new ++ rest.drop sz := by
        unfold AH.splice
        rw [← h1, List.take_left, hl, ← List.drop_drop, List.drop_left]
      refine ⟨.sl b 0 (n + 1) cap sz ex, (h.alloc (.cells new .own)).put b (.cells (cs ++ new ++ rest.drop sz) .own), ?_, .inr ⟨b, cap, ex, rest.drop sz, rfl, by rw [List.length_append, hl, h1, Nat.add_mul, Nat.one_mul], ?_, by simp; omega, by rw [AH.get_put, if_pos rfl]⟩, by simp, fun c hc hoff => ?_, fun b' o l k z x hv => by cases hv; exact .inr ⟨_, _, _, _, _, rfl⟩⟩
      · simp only [aAppend, ht, hd, he, isSrc_sl ht hd, hsrc]
        rw [if_pos hz, if_pos hc, Nat.zero_add]
        simp only [AH.storen, hg]
        rw [if_pos ⟨by rw [List.length_append]; omega, hone⟩, hsp]
        rfl
      · rw [List.length_append, List.length_drop]; omega
      · rw [AH.get_put, if_neg (hoff _ _ _ _ _ _ rfl), AH.get_alloc, if_neg (by omega)]
    · have hcap : cap = n := by
        have : n * sz ≤ cap * sz := by omega
        have := Nat.le_of_mul_le_mul_right this hs0
        omega
      have hrest : rest = [] := by
        rw [hcap] at h2
        exact List.length_eq_zero_iff.1 (by omega)
      subst hcap hrest
      rw [List.append_nil] at h4 hg
      have htk : List.take (cap * sz) (List.drop 0 cs) = cs := by rw [List.drop_zero, List.take_of_length_le (by omega)]
      cases ex with
      | true =>
        have := app_slx (T := T) (h := h.alloc (.cells new .own)) ht hd he (isSrc_sl ht hd) hsrc hb hz hg (o := 0) (len := cap) (by omega) (by omega) hsm
        rw [htk] at this
        refine ⟨_, _, this, .inr ⟨h.next + 1, cap + 1, false, [], rfl, by rw [List.length_append, hl, h1, Nat.add_mul, Nat.one_mul], by rw [List.length_append, hl, h1, Nat.add_mul, Nat.one_mul]; simp, by simp, by rw [AH.get_alloc, if_pos (by simp)]; simp⟩, by simp, fun c hc hoff => ?_, fun b o l k z x hv => by cases hv; exact .inl (by simp)⟩
        rw [AH.get_alloc, if_neg (by simp; omega), AH.get_alloc, if_neg (by omega)]
      | false =>
        have := app_sl (T := T) (h := h.alloc (.cells new .own)) ht hd he (isSrc_sl ht hd) hsrc hb hz hg (o := 0) (len := cap) (by omega) (by omega) hsm hone
        rw [htk] at this
        refine ⟨_, _, this, .inr ⟨h.next + 1, cap + 1, false, [], rfl, by rw [List.length_append, hl, h1, Nat.add_mul, Nat.one_mul], by rw [List.length_append, hl, h1, Nat.add_mul, Nat.one_mul]; simp, by simp, by rw [AH.get_alloc, if_pos (by simp)]; simp⟩, by simp, fun c hc hoff => ?_, fun b o l k z x hv => by cases hv; exact .inl (by simp)⟩
        rw [AH.get_alloc, if_neg (by simp; omega), AH.get_put, if_neg (hoff _ _ _ _ _ _ rfl), AH.get_alloc, if_neg (by omega)]
/-- All that was there is as it was; there may be more. -/
def Grow (h h2 : AH) : Prop := h.next ≤ h2.next ∧ ∀ c, c < h.next → h2.get c = h.get c
theorem Grow.refl (h : AH) : Grow h h := ⟨Nat.le_refl _, fun _ _ => rfl⟩
theorem Grow.alloc (h : AH) (x : AB) : Grow h (h.alloc x) := ⟨by simp, fun c hc => by rw [AH.get_alloc, if_neg (by omega)]⟩
theorem RowC.grow {sz n : Nat} {h h2 : AH} {v : AV} {cs : List AV} (hr : RowC sz h v n cs) (hg : Grow h h2) : RowC sz h2 v n cs :=
  hr.keep hg.1 fun b o l k z x hv => hg.2 b (hr.lt hv)
end Go.AM.Sx
namespace Go.AM.Sx
open Go Go.AM
set_option linter.unusedVariables false
theorem RowC.app {T : TT} {t xt el : Nat} {ti te : TI} {sz n m : Nat} {h : AH} {v x : AV} {cs new : List AV} (ht : T t = some ti) (hd : ti.desc = .slice el) (he : T el = some te) (hx : isSrc T xt = true) (hz : te.size = sz) (hs0 : 0 < sz) (hb : 0 < te.bytes) (hr : RowC sz h v n cs)
    (hsrc : aSource te.size x h = some (m, new)) (hm : 0 < m) (hl : new.length = m * sz) (hone : new.all AV.one = true) (hsm : (n + m) * te.bytes < maxBytes) :
    ∃ v' h2, aAppend T t xt v x h = some (v', h2) ∧ RowC sz h2 v' (n + m) (cs ++ new) ∧ h.next ≤ h2.next ∧ (∀ c, c < h.next → offRow v c → h2.get c = h.get c) ∧
      (∀ b o l k z x, v' = .sl b o l k z x → h.next ≤ b ∨ ∃ o l k z x, v = .sl b o l k z x) := by
  rcases hr with ⟨rfl, rfl, rfl⟩ | ⟨b, cap, ex, rest, rfl, h1, h2, h3, h4⟩
  · have := app_nils (T := T) (h := h) ht hd he hx hsrc hb (by omega) (by simpa using hsm)
    rw [hz] at this
    refine ⟨_, _, this, .inr ⟨h.next, m, false, [], by simp, by simp [hl], by simp [hl], by simp, by rw [AH.get_alloc, if_pos rfl]; simp⟩, by simp, fun c hc _ => ?_, fun b o l k z x hv => by cases hv; exact .inl (Nat.le_refl _)⟩
    rw [AH.get_alloc, if_neg (by omega)]
  · have e1 : (n + m) * sz = n * sz + m * sz := Nat.add_mul _ _ _
    by_cases hc : n + m ≤ cap
    · have hrl : m * sz ≤ rest.length := by
        have : (n + m) * sz ≤ cap * sz := Nat.mul_le_mul_right _ hc
        omega
      have hsp : AH.splice (cs ++ rest) (n * sz) new = cs ++ new ++ rest.drop (m * sz) := by
        unfold AH.splice
        rw [← h1, List.take_left, hl, ← List.drop_drop, List.drop_left]
      refine ⟨.sl b 0 (n + m) cap sz ex, h.put b (.cells (cs ++ new ++ rest.drop (m * sz)) .own), ?_, .inr ⟨b, cap, ex, rest.drop (m * sz), rfl, by rw [List.length_append, hl, h1, e1], ?_, h3, by rw [AH.get_put, if_pos rfl]⟩, Nat.le_refl _, fun c hc hoff => ?_, fun b' o l k z x hv => by cases hv; exact .inr ⟨_, _, _, _, _, rfl⟩⟩
      · simp only [aAppend, ht, hd, he, hx, hsrc]
        rw [if_pos hz, if_pos hc, Nat.zero_add]
        simp only [AH.storen, h4]
        rw [if_pos ⟨by rw [List.length_append]; omega, hone⟩, hsp]
        rfl
      · rw [List.length_append, List.length_drop]; omega
      · rw [AH.get_put, if_neg (hoff _ _ _ _ _ _ rfl)]
    · have e2 : n * sz ≤ cap * sz := by omega
      have hcn := Nat.le_of_mul_le_mul_right e2 hs0
      have htk : List.take (n * sz) (List.drop 0 (cs ++ rest)) = cs := by rw [List.drop_zero, ← h1, List.take_left]
      have hgl : 0 + n * sz ≤ (cs ++ rest).length := by rw [List.length_append]; omega
      cases ex with
      | true =>
        have : aAppend T t xt (.sl b 0 n cap sz true) x h = some (.sl h.next 0 (n + m) (n + m) sz false, h.alloc (.cells (cs ++ new) .own)) := by
          simp only [aAppend, ht, hd, he, hx, hsrc]
          rw [if_pos hz, if_neg hc, if_pos ⟨hb, hsm⟩]
          simp only [h4]
          rw [if_pos hgl, htk]
        refine ⟨_, _, this, .inr ⟨h.next, n + m, false, [], rfl, by rw [List.length_append, hl, h1, e1], by rw [List.length_append, hl, h1, e1]; simp, by simp, by rw [AH.get_alloc, if_pos rfl]; simp⟩, by simp, fun c hc hoff => ?_, fun b o l k z x hv => by cases hv; exact .inl (Nat.le_refl _)⟩
        rw [AH.get_alloc, if_neg (by omega)]
      | false =>
        have : aAppend T t xt (.sl b 0 n cap sz false) x h = some (.sl h.next 0 (n + m) (n + m) sz false, (h.put b .dead).alloc (.cells (cs ++ new) .own)) := by
          simp only [aAppend, ht, hd, he, hx, hsrc]
          rw [if_pos hz, if_neg hc, if_pos ⟨hb, hsm⟩]
          simp only [h4]
          rw [if_pos hgl]
          simp only [hone, if_true]
          rw [htk]
        refine ⟨_, _, this, .inr ⟨h.next, n + m, false, [], rfl, by rw [List.length_append, hl, h1, e1], by rw [List.length_append, hl, h1, e1]; simp, by simp, by rw [AH.get_alloc, if_pos (by simp)]; simp⟩, by simp, fun c hc hoff => ?_, fun b o l k z x hv => by cases hv; exact .inl (Nat.le_refl _)⟩
        rw [AH.get_alloc, if_neg (by simp; omega), AH.get_put, if_neg (hoff _ _ _ _ _ _ rfl)]
theorem RowC.app' {T : TT} {t xt el : Nat} {ti te : TI} {sz n m : Nat} {h : AH} {v x : AV} {cs new : List AV} (ht : T t = some ti) (hd : ti.desc = .slice el) (he : T el = some te) (hx : isSrc T xt = true) (hz : te.size = sz) (hs0 : 0 < sz) (hb : 0 < te.bytes) (hr : RowC sz h v n cs)
    (hsrc : aSource te.size x h = some (m, new)) (hl : new.length = m * sz) (hone : new.all AV.one = true) (hsm : (n + m) * te.bytes < maxBytes) :
    ∃ v' h2, aAppend T t xt v x h = some (v', h2) ∧ RowC sz h2 v' (n + m) (cs ++ new) ∧ h.next ≤ h2.next ∧ (∀ c, c < h.next → offRow v c → h2.get c = h.get c) ∧
      (∀ b o l k z x, v' = .sl b o l k z x → h.next ≤ b ∨ ∃ o l k z x, v = .sl b o l k z x) := by
  rcases Nat.eq_zero_or_pos m with rfl | hm
  · have hnew : new = [] := List.length_eq_zero_iff.1 (by rw [hl]; simp)
    subst hnew
    rcases hr with ⟨rfl, rfl, rfl⟩ | ⟨b, cap, ex, rest, rfl, h1, h2, h3, h4⟩
    · refine ⟨.nils, h, ?_, RowC.nil _ _, Nat.le_refl _, fun _ _ _ => rfl, fun _ _ _ _ _ _ e => by cases e⟩
      simp [aAppend, ht, hd, he, hx, hsrc]
    · have hcn : n ≤ cap := Nat.le_of_mul_le_mul_right (show n * sz ≤ cap * sz by omega) hs0
      have hsp : AH.splice (cs ++ rest) (n * sz) [] = cs ++ rest := by unfold AH.splice; simp
      refine ⟨.sl b 0 n cap sz ex, h.put b (.cells (cs ++ rest) .own), ?_, .inr ⟨b, cap, ex, rest, rfl, by simpa using h1, by simpa using h2, h3, by rw [AH.get_put, if_pos rfl]; simp⟩, Nat.le_refl _, fun c hc hoff => ?_, fun b' o l k z x hv => by cases hv; exact .inr ⟨_, _, _, _, _, rfl⟩⟩
      · simp only [aAppend, ht, hd, he, hx, hsrc]
        rw [if_pos hz, if_pos (by omega), Nat.zero_add]
        simp only [AH.storen, h4]
        rw [if_pos ⟨by simp; omega, rfl⟩, hsp]
        rfl
      · rw [AH.get_put, if_neg (hoff _ _ _ _ _ _ rfl)]
  · exact hr.app ht hd he hx hz hs0 hb hsrc hm hl hone hsm
end Go.AM.Sx
namespace Go.AM.Sx
open Go Go.AM
set_option linter.unusedVariables false
section
variable {α : Type} (enc : α → List AV) (k : Nat) (hk : ∀ x, (enc x).length = k)
def fl (l : List α) : List AV := l.flatMap enc
include hk
theorem fl_len (l : List α) : (fl enc l).length = l.length * k := by
  induction l with
  | nil => simp [fl]
  | cons x l ih => unfold fl at ih ⊢; rw [List.flatMap_cons, List.length_append, ih, hk, List.length_cons, Nat.add_mul]; omega
theorem fl_drop : ∀ (l : List α) (i : Nat), (fl enc l).drop (i * k) = fl enc (l.drop i)
  | [], i => by simp [fl]
  | x :: l, 0 => by simp
  | x :: l, i + 1 => by
    have ih := fl_drop l i
    unfold fl at ih ⊢
    rw [List.flatMap_cons, List.drop_succ_cons, ← ih, show (i + 1) * k = (enc x).length + i * k by rw [hk, Nat.add_mul]; omega, List.drop_length_add_append]
omit hk in
theorem fl_app (a b : List α) : fl enc (a ++ b) = fl enc a ++ fl enc b := by simp [fl]
theorem fl_at {l : List α} {i : Nat} {x : α} (hx : l[i]? = some x) (rest : List AV) : ((fl enc l ++ rest).drop (i * k)).take k = enc x := by
  have hi := (List.getElem?_eq_some_iff.1 hx).1
  have he := (List.getElem?_eq_some_iff.1 hx).2
  have hlt : (i + 1) * k ≤ l.length * k := Nat.mul_le_mul_right _ hi
  rw [List.drop_append_of_le_length (by rw [fl_len enc k hk]; rw [Nat.add_mul] at hlt; omega), fl_drop enc k hk, List.drop_eq_getElem_cons hi, he]
  show (enc x ++ fl enc _ ++ rest).take k = _
  rw [List.append_assoc, ← hk x, List.take_left]
variable {T : TT} {t el : Nat} {ti te : TI} (ht : T t = some ti) (hd : ti.desc = .slice el) (he : T el = some te) (hz : te.size = k)
include ht hd he hz
end
end Go.AM.Sx
