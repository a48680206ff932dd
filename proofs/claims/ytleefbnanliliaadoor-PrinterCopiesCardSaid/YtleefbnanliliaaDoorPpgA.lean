/- The program of this seat, as the abstract machine has it: its functions, its types. Own work. -/
import Derived.Test.YtleefbnanliliaaDoorProg
import Derived.Test.YtleefbnanliliaaDoorAmView
import Derived.Test.YtleefbnanliliaaDoorAmSimp4
import Derived.Test.YtleefbnanliliaaDoorAmItoa
import Derived.KernelRfl
namespace Go.AM.X
open Go Go.AM Go.Proofs Go.AM.Sx
noncomputable def F := Fof Tryd.prog
noncomputable def T := tiOf Tryd.prog
theorem hT : TAgree Tryd.prog T := tiOf_agree _
theorem hF : FAgree Tryd.prog F := Fof_agree _
theorem hmix : Tryd.prog.follows .mixedOrders = true := by decide +kernel
noncomputable def tt3 : TI := (T 3).getD ⟨.bool, 0, 0, [], false, [], [], none⟩
theorem T3 : T 3 = some tt3 := by kernel_rfl
theorem d3 : tt3.desc = .int .i64 := by kernel_rfl
theorem s3 : tt3.size = 1 := by kernel_rfl
theorem b3 : tt3.bytes = 8 := by kernel_rfl
theorem a3 : tt3.agg = false := by kernel_rfl
theorem z3 : tt3.zero = [.int .i64 0] := by kernel_rfl
noncomputable def tt5 : TI := (T 5).getD ⟨.bool, 0, 0, [], false, [], [], none⟩
theorem T5 : T 5 = some tt5 := by kernel_rfl
theorem d5 : tt5.desc = .int .u8 := by kernel_rfl
theorem s5 : tt5.size = 1 := by kernel_rfl
theorem b5 : tt5.bytes = 1 := by kernel_rfl
theorem a5 : tt5.agg = false := by kernel_rfl
theorem z5 : tt5.zero = [.int .u8 0] := by kernel_rfl
noncomputable def tt23 : TI := (T 23).getD ⟨.bool, 0, 0, [], false, [], [], none⟩
theorem T23 : T 23 = some tt23 := by kernel_rfl
theorem d23 : tt23.desc = .pointer 73 := by kernel_rfl
theorem a23 : tt23.agg = false := by kernel_rfl
noncomputable def tt31 : TI := (T 31).getD ⟨.bool, 0, 0, [], false, [], [], none⟩
theorem T31 : T 31 = some tt31 := by kernel_rfl
theorem d31 : tt31.desc = .slice 3 := by kernel_rfl
noncomputable def tt48 : TI := (T 48).getD ⟨.bool, 0, 0, [], false, [], [], none⟩
theorem T48 : T 48 = some tt48 := by kernel_rfl
theorem d48 : tt48.desc = .slice 5 := by kernel_rfl
theorem s48 : tt48.size = 1 := by kernel_rfl
theorem a48 : tt48.agg = false := by kernel_rfl
noncomputable def tt51 : TI := (T 51).getD ⟨.bool, 0, 0, [], false, [], [], none⟩
theorem T51 : T 51 = some tt51 := by kernel_rfl
theorem d51 : tt51.desc = .slice 58 := by kernel_rfl
theorem s51 : tt51.size = 1 := by kernel_rfl
theorem a51 : tt51.agg = false := by kernel_rfl
noncomputable def tt58 : TI := (T 58).getD ⟨.bool, 0, 0, [], false, [], [], none⟩
theorem T58 : T 58 = some tt58 := by kernel_rfl
theorem d58 : tt58.desc = .struct (fieldsD tt58.desc).toArray := by kernel_rfl
theorem s58 : tt58.size = 2 := by kernel_rfl
theorem b58 : tt58.bytes = 32 := by kernel_rfl
theorem a58 : tt58.agg = true := by kernel_rfl
theorem z58 : tt58.zero = [.int .i64 0, .nils] := by kernel_rfl
theorem p58_0 : tt58.places[0]? = some (0, 1, false) := by kernel_rfl
theorem p58_1 : tt58.places[1]? = some (1, 1, false) := by kernel_rfl
noncomputable def tt70 : TI := (T 70).getD ⟨.bool, 0, 0, [], false, [], [], none⟩
theorem T70 : T 70 = some tt70 := by kernel_rfl
theorem d70 : tt70.desc = .slice 81 := by kernel_rfl
theorem s70 : tt70.size = 1 := by kernel_rfl
theorem a70 : tt70.agg = false := by kernel_rfl
noncomputable def tt71 : TI := (T 71).getD ⟨.bool, 0, 0, [], false, [], [], none⟩
theorem T71 : T 71 = some tt71 := by kernel_rfl
theorem d71 : tt71.desc = .slice 82 := by kernel_rfl
theorem s71 : tt71.size = 1 := by kernel_rfl
theorem a71 : tt71.agg = false := by kernel_rfl
noncomputable def tt73 : TI := (T 73).getD ⟨.bool, 0, 0, [], false, [], [], none⟩
theorem T73 : T 73 = some tt73 := by kernel_rfl
theorem d73 : tt73.desc = .struct (fieldsD tt73.desc).toArray := by kernel_rfl
theorem s73 : tt73.size = 6 := by kernel_rfl
theorem z73 : tt73.zero = [.int .i64 0, .int .i64 0, .nils, .nils, .nils, .int .i64 0] := by kernel_rfl
theorem p73_0 : tt73.places[0]? = some (0, 1, false) := by kernel_rfl
theorem p73_1 : tt73.places[1]? = some (1, 1, false) := by kernel_rfl
theorem p73_2 : tt73.places[2]? = some (2, 1, false) := by kernel_rfl
theorem p73_3 : tt73.places[3]? = some (3, 1, false) := by kernel_rfl
theorem p73_4 : tt73.places[4]? = some (4, 1, false) := by kernel_rfl
theorem p73_5 : tt73.places[5]? = some (5, 1, false) := by kernel_rfl
noncomputable def tt81 : TI := (T 81).getD ⟨.bool, 0, 0, [], false, [], [], none⟩
theorem T81 : T 81 = some tt81 := by kernel_rfl
theorem d81 : tt81.desc = .struct (fieldsD tt81.desc).toArray := by kernel_rfl
theorem s81 : tt81.size = 3 := by kernel_rfl
theorem b81 : tt81.bytes = 24 := by kernel_rfl
theorem a81 : tt81.agg = true := by kernel_rfl
theorem z81 : tt81.zero = [.int .i64 0, .int .i64 0, .nilp] := by kernel_rfl
theorem p81_0 : tt81.places[0]? = some (0, 1, false) := by kernel_rfl
theorem p81_1 : tt81.places[1]? = some (1, 1, false) := by kernel_rfl
theorem p81_2 : tt81.places[2]? = some (2, 1, false) := by kernel_rfl
noncomputable def tt82 : TI := (T 82).getD ⟨.bool, 0, 0, [], false, [], [], none⟩
theorem T82 : T 82 = some tt82 := by kernel_rfl
theorem s82 : tt82.size = 1 := by kernel_rfl
theorem b82 : tt82.bytes = 8 := by kernel_rfl
theorem a82 : tt82.agg = false := by kernel_rfl
theorem z82 : tt82.zero = [.nilp] := by kernel_rfl
noncomputable def tt84 : TI := (T 84).getD ⟨.bool, 0, 0, [], false, [], [], none⟩
theorem T84 : T 84 = some tt84 := by kernel_rfl
theorem d84 : tt84.desc = .struct (fieldsD tt84.desc).toArray := by kernel_rfl
theorem z84 : tt84.zero = [.int .i64 0, .nilp, .int .i64 0, .int .i64 0, .int .i64 0, .nils] := by kernel_rfl
theorem p84_0 : tt84.places[0]? = some (0, 1, false) := by kernel_rfl
theorem p84_1 : tt84.places[1]? = some (1, 1, false) := by kernel_rfl
theorem p84_2 : tt84.places[2]? = some (2, 1, false) := by kernel_rfl
theorem p84_3 : tt84.places[3]? = some (3, 1, false) := by kernel_rfl
theorem p84_4 : tt84.places[4]? = some (4, 1, false) := by kernel_rfl
theorem p84_5 : tt84.places[5]? = some (5, 1, false) := by kernel_rfl
end Go.AM.X
namespace Go.AM.Sx
open Go Go.AM
set_option linter.unusedVariables false
/-- A row of the call's own, with room behind it. -/
def RowC (sz : Nat) (h : AH) (v : AV) (n : Nat) (cs : List AV) : Prop :=
  (v = .nils ∧ n = 0 ∧ cs = []) ∨ ∃ b cap ex rest, v = .sl b 0 n cap sz ex ∧ cs.length = n * sz ∧ cs.length + rest.length = cap * sz ∧ b < h.next ∧ h.get b = some (.cells (cs ++ rest) .own)
theorem RowC.nil (sz : Nat) (h : AH) : RowC sz h .nils 0 [] := .inl ⟨rfl, rfl, rfl⟩
theorem RowC.cs_len {sz n : Nat} {h : AH} {v : AV} {cs : List AV} (hr : RowC sz h v n cs) : cs.length = n * sz := by
  rcases hr with ⟨_, rfl, rfl⟩ | ⟨b, cap, ex, rest, _, h1, _⟩
  · simp
  · exact h1
theorem RowC.lt {sz n : Nat} {h : AH} {v : AV} {cs : List AV} (hr : RowC sz h v n cs) {b o l k z : Nat} {x : Bool} (hv : v = .sl b o l k z x) : b < h.next := by
  rcases hr with ⟨rfl, _⟩ | ⟨b', cap, ex, rest, rfl, _, _, h3, _⟩
  · cases hv
  · cases hv; exact h3
theorem RowC.keep {sz n : Nat} {h h2 : AH} {v : AV} {cs : List AV} (hr : RowC sz h v n cs) (hn : h.next ≤ h2.next) (hk : ∀ b o l k z x, v = .sl b o l k z x → h2.get b = h.get b) : RowC sz h2 v n cs := by
  rcases hr with h | ⟨b, cap, ex, rest, rfl, h1, h2', h3, h4⟩
  · exact .inl h
  · exact .inr ⟨b, cap, ex, rest, rfl, h1, h2', by omega, by rw [hk _ _ _ _ _ _ rfl]; exact h4⟩
theorem RowC.len {T : TT} {t el : Nat} {ti : TI} {sz n : Nat} {h h2 : AH} {v : AV} {cs : List AV} (ht : T t = some ti) (hd : ti.desc = .slice el) (hr : RowC sz h v n cs) : aLen T t v h2 = some (.int .i64 (n : Nat)) := by
  rcases hr with ⟨rfl, rfl, _⟩ | ⟨b, cap, ex, rest, rfl, _⟩
  · simp [aLen, ht, hd]
  · simp [aLen, ht, hd]
theorem RowC.cells {sz n : Nat} {h : AH} {v : AV} {cs : List AV} (hr : RowC sz h v n cs) : v.cells = some [v] ∧ v.one = true := by
  rcases hr with ⟨rfl, _⟩ | ⟨b, cap, ex, rest, rfl, _⟩ <;> exact ⟨rfl, rfl⟩
/-- One element: where it lies, and what it reads as. -/
theorem RowC.at_ {T : TT} {t el : Nat} {ti te : TI} {sz n i : Nat} {h : AH} {v : AV} {cs : List AV} (ht : T t = some ti) (hd : ti.desc = .slice el) (he : T el = some te) (hz : te.size = sz) (hr : RowC sz h v n cs) (hi : i < n) :
    ∃ b rest, (∃ cap ex, v = .sl b 0 n cap sz ex) ∧ aIndexAddr T t v (.int .i64 (i : Nat)) = some (.ptr b (i * sz)) ∧ h.get b = some (.cells (cs ++ rest) .own) ∧ cs.length = n * sz := by
  rcases hr with ⟨rfl, rfl, rfl⟩ | ⟨b, cap, ex, rest, rfl, h1, h2, h3, h4⟩
  · omega
  · refine ⟨b, rest, ⟨cap, ex, rfl⟩, ?_, h4, h1⟩
    rw [ia_sl ht hd he hz, if_pos ⟨by omega, by omega⟩]
    simp
theorem RowC.push {T : TT} {t el : Nat} {ti te : TI} {sz n : Nat} {h : AH} {v : AV} {cs new : List AV} (ht : T t = some ti) (hd : ti.desc = .slice el) (he : T el = some te) (hz : te.size = sz) (hs0 : 0 < sz) (hb : 0 < te.bytes) (hr : RowC sz h v n cs)
    (hl : new.length = sz) (hone : new.all AV.one = true) (hsm : (n + 1) * te.bytes < maxBytes) :
    ∃ v' h2, aAppend T t t v (.sl h.next 0 1 1 sz true) (h.alloc (.cells new .own)) = some (v', h2) ∧ RowC sz h2 v' (n + 1) (cs ++ new) ∧ h.next + 1 ≤ h2.next ∧ (∀ c, c < h.next → offRow v c → h2.get c = h.get c) ∧
      (∀ b o l k z x, v' = .sl b o l k z x → h.next ≤ b ∨ ∃ o l k z x, v = .sl b o l k z x) := by
  have hsrc : aSource te.size (.sl h.next 0 1 1 sz true) (h.alloc (.cells new .own)) = some (1, new) := by
    rw [hz, src_sl]
    simp only [AH.loadn, AH.get_alloc, if_true]
    rw [if_pos (by omega), List.drop_zero, List.take_of_length_le (by omega)]
    rfl
  have hcn := hr.cs_len
  rcases hr with ⟨rfl, rfl, rfl⟩ | ⟨b, cap, ex, rest, rfl, h1, h2, h3, h4⟩
  · have := app_nils (T := T) (h := h.alloc (.cells new .own)) ht hd he (isSrc_sl ht hd) hsrc hb (by omega) (by simpa using hsm)
    rw [hz] at this
    refine ⟨_, _, this, .inr ⟨h.next + 1, 1, false, [], rfl, by simp [hl], by simp [hl], by simp, by rw [AH.get_alloc, if_pos (by simp)]; simp⟩, by simp, fun c hc _ => ?_, fun b o l k z x hv => by cases hv; exact .inl (by simp)⟩
    rw [AH.get_alloc, if_neg (by simp; omega), AH.get_alloc, if_neg (by omega)]
  · have hg : (h.alloc (.cells new .own)).get b = some (.cells (cs ++ rest) .own) := by rw [AH.get_alloc, if_neg (by omega)]; exact h4
    by_cases hc : n + 1 ≤ cap
    · have hrl : sz ≤ rest.length := by
        have : (n + 1) * sz ≤ cap * sz := Nat.mul_le_mul_right _ hc
        rw [Nat.add_mul, Nat.one_mul] at this; omega
      have hsp : AH.splice (cs ++ rest) (n * sz) new = cs ++ new ++ rest.drop sz := by
        unfold AH.splice
        rw [← h1, List.take_left, hl, ← List.drop_drop, List.drop_left]
      refine ⟨.sl b 0 (n + 1) cap sz ex, (h.alloc (.cells new .own)).put b (.cells (cs ++ new ++ rest.drop sz) .own), ?_, .inr ⟨b, cap, ex, rest.drop sz, rfl, by rw [List.length_append, hl, h1, Nat.add_mul, Nat.one_mul], ?_, by simp; omega, by rw [AH.get_put, if_pos rfl]⟩, by simp, fun c hc hoff => ?_, fun b' o l k z x hv => by cases hv; exact .inr ⟨_, _, _, _, _, rfl⟩⟩
      · simp only [aAppend, ht, hd, he, isSrc_sl ht hd, hsrc]
        rw [if_pos hz, if_pos hc, Nat.zero_add]
        simp only [AH.storen, hg]
        rw [if_pos ⟨by rw [List.length_append]; omega, hone⟩, hsp]
        rfl
      · rw [List.length_append, List.length_drop]; omega
      · rw [AH.get_put, if_neg (hoff _ _ _ _ _ _ rfl), AH.get_alloc, if_neg (by omega)]
    · have hcap : cap = n := by
        have : n * sz ≤ cap * sz := by omega
        have := Nat.le_of_mul_le_mul_right this hs0
        omega
      have hrest : rest = [] := by
        rw [hcap] at h2
        exact List.length_eq_zero_iff.1 (by omega)
      subst hcap hrest
      rw [List.append_nil] at h4 hg
      have htk : List.take (cap * sz) (List.drop 0 cs) = cs := by rw [List.drop_zero, List.take_of_length_le (by omega)]
      cases ex with
      | true =>
        have := app_slx (T := T) (h := h.alloc (.cells new .own)) ht hd he (isSrc_sl ht hd) hsrc hb hz hg (o := 0) (len := cap) (by omega) (by omega) hsm
        rw [htk] at this
        refine ⟨_, _, this, .inr ⟨h.next + 1, cap + 1, false, [], rfl, by rw [List.length_append, hl, h1, Nat.add_mul, Nat.one_mul], by rw [List.length_append, hl, h1, Nat.add_mul, Nat.one_mul]; simp, by simp, by rw [AH.get_alloc, if_pos (by simp)]; simp⟩, by simp, fun c hc hoff => ?_, fun b o l k z x hv => by cases hv; exact .inl (by simp)⟩
        rw [AH.get_alloc, if_neg (by simp; omega), AH.get_alloc, if_neg (by omega)]
      | false =>
        have := app_sl (T := T) (h := h.alloc (.cells new .own)) ht hd he (isSrc_sl ht hd) hsrc hb hz hg (o := 0) (len := cap) (by omega) (by omega) hsm hone
        rw [htk] at this
        refine ⟨_, _, this, .inr ⟨h.next + 1, cap + 1, false, [], rfl, by rw [List.length_append, hl, h1, Nat.add_mul, Nat.one_mul], by rw [List.length_append, hl, h1, Nat.add_mul, Nat.one_mul]; simp, by simp, by rw [AH.get_alloc, if_pos (by simp)]; simp⟩, by simp, fun c hc hoff => ?_, fun b o l k z x hv => by cases hv; exact .inl (by simp)⟩
        rw [AH.get_alloc, if_neg (by simp; omega), AH.get_put, if_neg (hoff _ _ _ _ _ _ rfl), AH.get_alloc, if_neg (by omega)]
/-- All that was there is as it was; there may be more. -/
def Grow (h h2 : AH) : Prop := h.next ≤ h2.next ∧ ∀ c, c < h.next → h2.get c = h.get c
theorem Grow.refl (h : AH) : Grow h h := ⟨Nat.le_refl _, fun _ _ => rfl⟩
theorem Grow.trans {a b c : AH} (h : Grow a b) (k : Grow b c) : Grow a c := ⟨Nat.le_trans h.1 k.1, fun x hx => by rw [k.2 x (Nat.lt_of_lt_of_le hx h.1), h.2 x hx]⟩
theorem Grow.alloc (h : AH) (x : AB) : Grow h (h.alloc x) := ⟨by simp, fun c hc => by rw [AH.get_alloc, if_neg (by omega)]⟩
theorem RowC.grow {sz n : Nat} {h h2 : AH} {v : AV} {cs : List AV} (hr : RowC sz h v n cs) (hg : Grow h h2) : RowC sz h2 v n cs :=
  hr.keep hg.1 fun b o l k z x hv => hg.2 b (hr.lt hv)
end Go.AM.Sx
namespace Go.AM.Sx
open Go Go.AM
set_option linter.unusedVariables false
section
variable {C : Cf} {T : TT} {e : Env} {h : AH} {dst : Option Nat} {type : TypeId} {pos : String} {after : Array Edge} {guard : Option (Nat × Bool)}
theorem o_clear {x t} : outOf C T ⟨dst, .call ⟨.builtin .clear, #[x], #[t]⟩, type, pos, after, guard⟩ e h = .h (aClear T t (ev e x) h) := (rfl)
end
theorem sl_slC {T : TT} {t el : Nat} {ti te : TI} {b o len cap sz l u m : Nat} {ex : Bool} {lo hi mx : Option AV} (ht : T t = some ti) (hd : ti.desc = .slice el) (he : T el = some te) (hz : te.size = sz) (hm : bnd mx cap = some m) (hu : bnd hi len = some u) (hl : bnd lo 0 = some l)
    (h1 : l ≤ u) (h2 : u ≤ m) (h3 : m ≤ cap) (h4 : mx.isSome → hi.isSome) : aSlice T t (.sl b o len cap sz ex) lo hi mx = some (.sl b (o + l * sz) (u - l) (m - l) sz (ex || mx.isSome)) := by
  simp only [aSlice, ht, hd, he, hm, hu, hl]
  rw [if_pos ⟨h1, h2, h3, hz, h4⟩]
theorem bnd_nat {i d : Nat} : bnd (some (.int .i64 ((i : Nat) : Int))) d = some i := by simp [bnd]
theorem del_facts {T : TT} {t el : Nat} {ti te : TI} {sz n i : Nat} {h : AH} {v : AV} {cs : List AV} (ht : T t = some ti) (hd : ti.desc = .slice el) (he : T el = some te) (hz : te.size = sz) (hs0 : 0 < sz) (hzl : te.zero.length = sz) (hz1 : te.zero.all AV.one = true)
    (hr : RowC sz h v n cs) (hone : cs.all AV.one = true) (hi : i < n) :
    ∃ x13 v22 v25 v26 h1 x31 h2, aSlice T t v (some (.int .i64 (i : Nat))) (some (.int .i64 ((i + 1 : Nat) : Int))) (some (.int .i64 (n : Nat))) = some x13 ∧ aSlice T t v none (some (.int .i64 (i : Nat))) none = some v22 ∧ aSlice T t v (some (.int .i64 ((i + 1 : Nat) : Int))) none none = some v25 ∧
      aAppend T t t v22 v25 h = some (v26, h1) ∧ (∀ h, aLen T t v26 h = some (.int .i64 ((n - 1 : Nat) : Int))) ∧ aSlice T t v26 (some (.int .i64 ((n - 1 : Nat) : Int))) (some (.int .i64 (n : Nat))) none = some x31 ∧ aClear T t x31 h1 = some h2 ∧
      RowC sz h2 v26 (n - 1) (cs.take (i * sz) ++ cs.drop ((i + 1) * sz)) ∧ h2.next = h.next ∧ (∀ c, offRow v c → h2.get c = h.get c) ∧ (∀ b o l k z x, v26 = .sl b o l k z x → ∃ o l k z x, v = .sl b o l k z x) := by
  have hcn := hr.cs_len
  rcases hr with ⟨rfl, rfl, rfl⟩ | ⟨b, cap, ex, rest, rfl, h1, h2, h3, h4⟩
  · omega
  have hncap : n ≤ cap := Nat.le_of_mul_le_mul_right (show n * sz ≤ cap * sz by omega) hs0
  have e1 : (i + 1) * sz = i * sz + sz := by rw [Nat.add_mul, Nat.one_mul]
  have e2 : (i + 1) * sz ≤ n * sz := Nat.mul_le_mul_right _ (by omega)
  have e3 : n * sz = (n - 1) * sz + sz := by rw [← Nat.succ_mul]; congr 1; omega
  have e4 : n - (i + 1) = n - 1 - i := by omega
  have e5 : (n - (i + 1)) * sz = n * sz - (i + 1) * sz := Nat.sub_mul _ _ _
  have e6 : i + (n - (i + 1)) = n - 1 := by omega
  obtain ⟨A, hA⟩ : ∃ A, A = cs.take (i * sz) := ⟨_, rfl⟩
  obtain ⟨B, hB⟩ : ∃ B, B = cs.drop ((i + 1) * sz) := ⟨_, rfl⟩
  have hAl : A.length = i * sz := by rw [hA, List.length_take]; omega
  have hBl : B.length = (n - (i + 1)) * sz := by rw [hB, List.length_drop]; omega
  have hABl : (A ++ B).length = (n - 1) * sz := by rw [List.length_append, hAl, hBl]; omega
  have hsrc : aSource te.size (.sl b (0 + (i + 1) * sz) (n - (i + 1)) (cap - (i + 1)) sz (ex || false)) h = some (n - (i + 1), B) := by
    rw [hz, src_sl]
    simp only [AH.loadn, h4]
    rw [if_pos (by rw [List.length_append]; omega), Nat.zero_add, List.drop_append_of_le_length (by omega), ← hB, List.take_append_of_le_length (by omega), List.take_of_length_le (by omega)]
    rfl
  -- behind the append
  obtain ⟨R, hR⟩ : ∃ R, R = (cs ++ rest).drop (i * sz + B.length) := ⟨_, rfl⟩
  have hsp : AH.splice (cs ++ rest) (i * sz) B = A ++ B ++ R := by
    unfold AH.splice
    rw [List.take_append_of_le_length (by omega), ← hA, hR]
  have hRl : R.length = cap * sz - (n - 1) * sz := by rw [hR, List.length_drop, List.length_append]; omega
  have hBo : B.all AV.one = true := by rw [hB]; exact List.all_eq_true.2 fun x hx => List.all_eq_true.1 hone x (List.mem_of_mem_drop hx)
  · obtain ⟨h1', hh1⟩ : ∃ h1', h1' = h.put b (.cells (A ++ B ++ R) .own) := ⟨_, rfl⟩
    have hg1 : h1'.get b = some (.cells (A ++ B ++ R) .own) := by rw [hh1, AH.get_put, if_pos rfl]
    have hsp2 : AH.splice (A ++ B ++ R) (0 + (n - 1) * sz) (repl te.zero 1) = A ++ B ++ (te.zero ++ R.drop sz) := by
      have hrp : repl te.zero 1 = te.zero := by simp [repl]
      unfold AH.splice
      rw [hrp, Nat.zero_add, ← hABl, List.take_left, hzl, ← List.drop_drop, List.drop_left, List.append_assoc]
    refine ⟨_, _, _, .sl b 0 (n - 1) cap sz (ex || false), h1', _, h1'.put b (.cells (A ++ B ++ (te.zero ++ R.drop sz)) .own), sl_slC ht hd he hz bnd_nat bnd_nat bnd_nat (by omega) (by omega) hncap (by simp), sl_slC ht hd he hz (m := cap) (l := 0) rfl bnd_nat rfl (by omega) (by omega) (Nat.le_refl _) (by simp),
      sl_slC ht hd he hz (m := cap) (u := n) rfl rfl bnd_nat (by omega) hncap (Nat.le_refl _) (by simp), ?_, fun h' => by simp [aLen, ht, hd], sl_slC ht hd he hz (m := cap) rfl bnd_nat bnd_nat (by omega) hncap (Nat.le_refl _) (by simp), ?_, ?_, by rw [hh1]; rfl, fun c hoff => ?_, fun b' o l k z x hv => by cases hv; exact ⟨_, _, _, _, _, rfl⟩⟩
    · simp only [aAppend, ht, hd, he, isSrc_sl ht hd, Option.isSome_none, hsrc]
      rw [if_pos hz, if_pos (by omega)]
      simp only [AH.storen, h4, Nat.zero_mul, Nat.add_zero, Nat.zero_add, Nat.sub_zero]
      rw [if_pos ⟨by rw [List.length_append]; omega, hBo⟩, hsp, e6, hh1]
      rfl
    · simp only [aClear, ht, hd, he]
      rw [if_pos hz, show n - (n - 1) = 1 by omega]
      simp only [AH.storen, hg1]
      have hrp : repl te.zero 1 = te.zero := by simp [repl]
      rw [if_pos ⟨by rw [hrp, hzl, List.length_append, hABl, hRl]; omega, by rw [hrp]; exact hz1⟩, hsp2]
    · rw [← hA, ← hB]
      refine .inr ⟨b, cap, ex || false, te.zero ++ R.drop sz, rfl, hABl, ?_, by rw [hh1]; exact h3, by rw [AH.get_put, if_pos rfl]⟩
      rw [hABl, List.length_append, hzl, List.length_drop, hRl]
      have : (n - 1) * sz + sz ≤ cap * sz := by omega
      omega
    · rw [AH.get_put, if_neg (hoff _ _ _ _ _ _ rfl), hh1, AH.get_put, if_neg (hoff _ _ _ _ _ _ rfl)]
end Go.AM.Sx
