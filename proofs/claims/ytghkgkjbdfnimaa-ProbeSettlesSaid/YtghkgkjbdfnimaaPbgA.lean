/- The program of this seat, as the abstract machine has it: its functions, its types. Own work. -/
import Derived.Test.YtghkgkjbdfnimaaProg
import Derived.Test.YtghkgkjbdfnimaaAmView
import Derived.Test.YtghkgkjbdfnimaaAmSimp4
import Derived.Test.YtghkgkjbdfnimaaAmClone
import Derived.KernelRfl
namespace Go.AM.X
open Go Go.AM Go.Proofs Go.AM.Sx
noncomputable def F := Fof Try.prog
noncomputable def T := tiOf Try.prog
theorem hT : TAgree Try.prog T := tiOf_agree _
theorem hF : FAgree Try.prog F := Fof_agree _
theorem hmix : Try.prog.follows .mixedOrders = true := by decide +kernel
noncomputable def tt3 : TI := (T 3).getD ⟨.bool, 0, 0, [], false, [], [], none⟩
theorem T3 : T 3 = some tt3 := by kernel_rfl
theorem d3 : tt3.desc = .int .i64 := by kernel_rfl
theorem s3 : tt3.size = 1 := by kernel_rfl
theorem b3 : tt3.bytes = 8 := by kernel_rfl
theorem a3 : tt3.agg = false := by kernel_rfl
theorem z3 : tt3.zero = [.int .i64 0] := by kernel_rfl
noncomputable def tt4 : TI := (T 4).getD ⟨.bool, 0, 0, [], false, [], [], none⟩
theorem T4 : T 4 = some tt4 := by kernel_rfl
theorem d4 : tt4.desc = .bool := by kernel_rfl
theorem s4 : tt4.size = 1 := by kernel_rfl
theorem b4 : tt4.bytes = 1 := by kernel_rfl
theorem a4 : tt4.agg = false := by kernel_rfl
theorem z4 : tt4.zero = [.bool false] := by kernel_rfl
noncomputable def tt5 : TI := (T 5).getD ⟨.bool, 0, 0, [], false, [], [], none⟩
theorem T5 : T 5 = some tt5 := by kernel_rfl
theorem s5 : tt5.size = 1 := by kernel_rfl
theorem b5 : tt5.bytes = 1 := by kernel_rfl
theorem a5 : tt5.agg = false := by kernel_rfl
noncomputable def tt22 : TI := (T 22).getD ⟨.bool, 0, 0, [], false, [], [], none⟩
theorem T22 : T 22 = some tt22 := by kernel_rfl
theorem d22 : tt22.desc = .slice 3 := by kernel_rfl
theorem s22 : tt22.size = 1 := by kernel_rfl
theorem a22 : tt22.agg = false := by kernel_rfl
theorem z22 : tt22.zero = [.nils] := by kernel_rfl
noncomputable def tt24 : TI := (T 24).getD ⟨.bool, 0, 0, [], false, [], [], none⟩
theorem T24 : T 24 = some tt24 := by kernel_rfl
theorem s24 : tt24.size = 3 := by kernel_rfl
theorem a24 : tt24.agg = true := by kernel_rfl
theorem p24_0 : tt24.places[0]? = some (0, 1, false) := by kernel_rfl
theorem p24_1 : tt24.places[1]? = some (1, 1, false) := by kernel_rfl
theorem p24_2 : tt24.places[2]? = some (2, 1, false) := by kernel_rfl
noncomputable def tt25 : TI := (T 25).getD ⟨.bool, 0, 0, [], false, [], [], none⟩
theorem T25 : T 25 = some tt25 := by kernel_rfl
theorem d25 : tt25.desc = .pointer 58 := by kernel_rfl
noncomputable def tt35 : TI := (T 35).getD ⟨.bool, 0, 0, [], false, [], [], none⟩
theorem T35 : T 35 = some tt35 := by kernel_rfl
theorem d35 : tt35.desc = .struct (fieldsD tt35.desc).toArray := by kernel_rfl
theorem s35 : tt35.size = 2 := by kernel_rfl
theorem a35 : tt35.agg = true := by kernel_rfl
theorem z35 : tt35.zero = [.int .i64 0, .int .i64 0] := by kernel_rfl
theorem p35_0 : tt35.places[0]? = some (0, 1, false) := by kernel_rfl
theorem p35_1 : tt35.places[1]? = some (1, 1, false) := by kernel_rfl
noncomputable def tt39 : TI := (T 39).getD ⟨.bool, 0, 0, [], false, [], [], none⟩
theorem T39 : T 39 = some tt39 := by kernel_rfl
theorem d39 : tt39.desc = .slice 42 := by kernel_rfl
noncomputable def tt42 : TI := (T 42).getD ⟨.bool, 0, 0, [], false, [], [], none⟩
theorem T42 : T 42 = some tt42 := by kernel_rfl
theorem s42 : tt42.size = 5 := by kernel_rfl
theorem a42 : tt42.agg = true := by kernel_rfl
theorem z42 : tt42.zero = [.int .i64 0, .int .i64 0, .int .i64 0, .int .i64 0, .nils] := by kernel_rfl
theorem p42_0 : tt42.places[0]? = some (0, 1, false) := by kernel_rfl
theorem p42_1 : tt42.places[1]? = some (1, 1, false) := by kernel_rfl
theorem p42_2 : tt42.places[2]? = some (2, 2, true) := by kernel_rfl
theorem p42_3 : tt42.places[3]? = some (4, 1, false) := by kernel_rfl
noncomputable def tt44 : TI := (T 44).getD ⟨.bool, 0, 0, [], false, [], [], none⟩
theorem T44 : T 44 = some tt44 := by kernel_rfl
theorem d44 : tt44.desc = .slice 77 := by kernel_rfl
noncomputable def tt46 : TI := (T 46).getD ⟨.bool, 0, 0, [], false, [], [], none⟩
theorem T46 : T 46 = some tt46 := by kernel_rfl
theorem d46 : tt46.desc = .slice 22 := by kernel_rfl
noncomputable def tt47 : TI := (T 47).getD ⟨.bool, 0, 0, [], false, [], [], none⟩
theorem T47 : T 47 = some tt47 := by kernel_rfl
theorem d47 : tt47.desc = .array 2 5 := by kernel_rfl
noncomputable def tt56 : TI := (T 56).getD ⟨.bool, 0, 0, [], false, [], [], none⟩
theorem T56 : T 56 = some tt56 := by kernel_rfl
theorem d56 : tt56.desc = .slice 59 := by kernel_rfl
theorem s56 : tt56.size = 1 := by kernel_rfl
theorem a56 : tt56.agg = false := by kernel_rfl
noncomputable def tt58 : TI := (T 58).getD ⟨.bool, 0, 0, [], false, [], [], none⟩
theorem T58 : T 58 = some tt58 := by kernel_rfl
theorem d58 : tt58.desc = .struct (fieldsD tt58.desc).toArray := by kernel_rfl
theorem z58 : tt58.zero = [.int .i64 0, .int .i64 0, .nils, .nils, .int .i64 0] := by kernel_rfl
theorem p58_0 : tt58.places[0]? = some (0, 1, false) := by kernel_rfl
theorem p58_1 : tt58.places[1]? = some (1, 1, false) := by kernel_rfl
theorem p58_2 : tt58.places[2]? = some (2, 1, false) := by kernel_rfl
theorem p58_3 : tt58.places[3]? = some (3, 1, false) := by kernel_rfl
theorem p58_4 : tt58.places[4]? = some (4, 1, false) := by kernel_rfl
noncomputable def tt59 : TI := (T 59).getD ⟨.bool, 0, 0, [], false, [], [], none⟩
theorem T59 : T 59 = some tt59 := by kernel_rfl
theorem s59 : tt59.size = 1 := by kernel_rfl
theorem b59 : tt59.bytes = 8 := by kernel_rfl
theorem a59 : tt59.agg = false := by kernel_rfl
theorem z59 : tt59.zero = [.nilp] := by kernel_rfl
noncomputable def tt61 : TI := (T 61).getD ⟨.bool, 0, 0, [], false, [], [], none⟩
theorem T61 : T 61 = some tt61 := by kernel_rfl
theorem d61 : tt61.desc = .slice 74 := by kernel_rfl
theorem s61 : tt61.size = 1 := by kernel_rfl
theorem a61 : tt61.agg = false := by kernel_rfl
noncomputable def tt62 : TI := (T 62).getD ⟨.bool, 0, 0, [], false, [], [], none⟩
theorem T62 : T 62 = some tt62 := by kernel_rfl
theorem d62 : tt62.desc = .slice 68 := by kernel_rfl
theorem s62 : tt62.size = 1 := by kernel_rfl
theorem a62 : tt62.agg = false := by kernel_rfl
noncomputable def tt64 : TI := (T 64).getD ⟨.bool, 0, 0, [], false, [], [], none⟩
theorem T64 : T 64 = some tt64 := by kernel_rfl
theorem d64 : tt64.desc = .struct (fieldsD tt64.desc).toArray := by kernel_rfl
theorem z64 : tt64.zero = [.nils, .int .i64 0, .int .i64 0, .int .i64 0, .int .i64 0, .int .i64 0, .nils, .nils] := by kernel_rfl
theorem p64_0 : tt64.places[0]? = some (0, 1, false) := by kernel_rfl
theorem p64_1 : tt64.places[1]? = some (1, 1, false) := by kernel_rfl
theorem p64_2 : tt64.places[2]? = some (2, 1, false) := by kernel_rfl
theorem p64_3 : tt64.places[3]? = some (3, 1, false) := by kernel_rfl
theorem p64_4 : tt64.places[4]? = some (4, 2, true) := by kernel_rfl
theorem p64_5 : tt64.places[5]? = some (6, 1, false) := by kernel_rfl
theorem p64_6 : tt64.places[6]? = some (7, 1, false) := by kernel_rfl
noncomputable def tt68 : TI := (T 68).getD ⟨.bool, 0, 0, [], false, [], [], none⟩
theorem T68 : T 68 = some tt68 := by kernel_rfl
theorem d68 : tt68.desc = .struct (fieldsD tt68.desc).toArray := by kernel_rfl
theorem s68 : tt68.size = 4 := by kernel_rfl
theorem b68 : tt68.bytes = 32 := by kernel_rfl
theorem a68 : tt68.agg = true := by kernel_rfl
theorem z68 : tt68.zero = [.int .i64 0, .int .i64 0, .int .i64 0, .int .i64 0] := by kernel_rfl
theorem p68_0 : tt68.places[0]? = some (0, 2, true) := by kernel_rfl
theorem p68_1 : tt68.places[1]? = some (2, 1, false) := by kernel_rfl
theorem p68_2 : tt68.places[2]? = some (3, 1, false) := by kernel_rfl
noncomputable def tt74 : TI := (T 74).getD ⟨.bool, 0, 0, [], false, [], [], none⟩
theorem T74 : T 74 = some tt74 := by kernel_rfl
theorem d74 : tt74.desc = .struct (fieldsD tt74.desc).toArray := by kernel_rfl
theorem s74 : tt74.size = 3 := by kernel_rfl
theorem b74 : tt74.bytes = 24 := by kernel_rfl
theorem a74 : tt74.agg = true := by kernel_rfl
theorem z74 : tt74.zero = [.int .i64 0, .int .i64 0, .int .i64 0] := by kernel_rfl
theorem p74_0 : tt74.places[0]? = some (0, 2, true) := by kernel_rfl
theorem p74_1 : tt74.places[1]? = some (2, 1, false) := by kernel_rfl
noncomputable def tt81 : TI := (T 81).getD ⟨.bool, 0, 0, [], false, [], [], none⟩
theorem T81 : T 81 = some tt81 := by kernel_rfl
theorem d81 : tt81.desc = .slice 4 := by kernel_rfl
noncomputable def tt84 : TI := (T 84).getD ⟨.bool, 0, 0, [], false, [], [], none⟩
theorem T84 : T 84 = some tt84 := by kernel_rfl
theorem d84 : tt84.desc = .slice 86 := by kernel_rfl
noncomputable def tt86 : TI := (T 86).getD ⟨.bool, 0, 0, [], false, [], [], none⟩
theorem T86 : T 86 = some tt86 := by kernel_rfl
theorem d86 : tt86.desc = .struct (fieldsD tt86.desc).toArray := by kernel_rfl
theorem s86 : tt86.size = 3 := by kernel_rfl
theorem b86 : tt86.bytes = 24 := by kernel_rfl
theorem a86 : tt86.agg = true := by kernel_rfl
theorem z86 : tt86.zero = [.int .i64 0, .int .i64 0, .int .i64 0] := by kernel_rfl
theorem p86_0 : tt86.places[0]? = some (0, 1, false) := by kernel_rfl
theorem p86_1 : tt86.places[1]? = some (1, 2, true) := by kernel_rfl
end Go.AM.X
namespace Go.AM.Sx
open Go Go.AM
set_option linter.unusedSimpArgs false
set_option linter.unusedVariables false
/-- A row of the call's own, with room behind it. -/
def RowC (sz : Nat) (h : AH) (v : AV) (n : Nat) (cs : List AV) : Prop :=
  (v = .nils ∧ n = 0 ∧ cs = []) ∨ ∃ b cap ex rest, v = .sl b 0 n cap sz ex ∧ cs.length = n * sz ∧ cs.length + rest.length = cap * sz ∧ b < h.next ∧ h.get b = some (.cells (cs ++ rest) .own)
theorem RowC.nil (sz : Nat) (h : AH) : RowC sz h .nils 0 [] := .inl ⟨rfl, rfl, rfl⟩
theorem RowC.cs_len {sz n : Nat} {h : AH} {v : AV} {cs : List AV} (hr : RowC sz h v n cs) : cs.length = n * sz := by
  rcases hr with ⟨_, rfl, rfl⟩ | ⟨b, cap, ex, rest, _, h1, _⟩
  · simp
  · exact h1
theorem RowC.lt {sz n : Nat} {h : AH} {v : AV} {cs : List AV} (hr : RowC sz h v n cs) {b o l k z : Nat} {x : Bool} (hv : v = .sl b o l k z x) : b < h.next := by
  rcases hr with ⟨rfl, _⟩ | ⟨b', cap, ex, rest, rfl, _, _, h3, _⟩
  · cases hv
  · cases hv; exact h3
theorem RowC.keep {sz n : Nat} {h h2 : AH} {v : AV} {cs : List AV} (hr : RowC sz h v n cs) (hn : h.next ≤ h2.next) (hk : ∀ b o l k z x, v = .sl b o l k z x → h2.get b = h.get b) : RowC sz h2 v n cs := by
  rcases hr with h | ⟨b, cap, ex, rest, rfl, h1, h2', h3, h4⟩
  · exact .inl h
  · exact .inr ⟨b, cap, ex, rest, rfl, h1, h2', by omega, by rw [hk _ _ _ _ _ _ rfl]; exact h4⟩
theorem RowC.len {T : TT} {t el : Nat} {ti : TI} {sz n : Nat} {h h2 : AH} {v : AV} {cs : List AV} (ht : T t = some ti) (hd : ti.desc = .slice el) (hr : RowC sz h v n cs) : aLen T t v h2 = some (.int .i64 (n : Nat)) := by
  rcases hr with ⟨rfl, rfl, _⟩ | ⟨b, cap, ex, rest, rfl, _⟩
  · simp [aLen, ht, hd]
  · simp [aLen, ht, hd]
theorem RowC.cells {sz n : Nat} {h : AH} {v : AV} {cs : List AV} (hr : RowC sz h v n cs) : v.cells = some [v] ∧ v.one = true := by
  rcases hr with ⟨rfl, _⟩ | ⟨b, cap, ex, rest, rfl, _⟩ <;> exact ⟨rfl, rfl⟩
/-- One element: where it lies, and what it reads as. -/
theorem RowC.at_ {T : TT} {t el : Nat} {ti te : TI} {sz n i : Nat} {h : AH} {v : AV} {cs : List AV} (ht : T t = some ti) (hd : ti.desc = .slice el) (he : T el = some te) (hz : te.size = sz) (hr : RowC sz h v n cs) (hi : i < n) :
    ∃ b rest, (∃ cap ex, v = .sl b 0 n cap sz ex) ∧ aIndexAddr T t v (.int .i64 (i : Nat)) = some (.ptr b (i * sz)) ∧ h.get b = some (.cells (cs ++ rest) .own) ∧ cs.length = n * sz := by
  rcases hr with ⟨rfl, rfl, rfl⟩ | ⟨b, cap, ex, rest, rfl, h1, h2, h3, h4⟩
  · omega
  · refine ⟨b, rest, ⟨cap, ex, rfl⟩, ?_, h4, h1⟩
    rw [ia_sl ht hd he hz, if_pos ⟨by omega, by omega⟩]
    simp
theorem RowC.push {T : TT} {t el : Nat} {ti te : TI} {sz n : Nat} {h : AH} {v : AV} {cs new : List AV} (ht : T t = some ti) (hd : ti.desc = .slice el) (he : T el = some te) (hz : te.size = sz) (hs0 : 0 < sz) (hb : 0 < te.bytes) (hr : RowC sz h v n cs)
    (hl : new.length = sz) (hone : new.all AV.one = true) (hsm : (n + 1) * te.bytes < maxBytes) :
    ∃ v' h2, aAppend T t t v (.sl h.next 0 1 1 sz true) (h.alloc (.cells new .own)) = some (v', h2) ∧ RowC sz h2 v' (n + 1) (cs ++ new) ∧ h.next + 1 ≤ h2.next ∧ (∀ c, c < h.next → offRow v c → h2.get c = h.get c) ∧
      (∀ b o l k z x, v' = .sl b o l k z x → h.next ≤ b ∨ ∃ o l k z x, v = .sl b o l k z x) := by
  have hsrc : aSource te.size (.sl h.next 0 1 1 sz true) (h.alloc (.cells new .own)) = some (1, new) := by
    rw [hz, src_sl]
    simp only [AH.loadn, AH.get_alloc, if_true]
    rw [if_pos (by omega), List.drop_zero, List.take_of_length_le (by omega)]
    rfl
  have hcn := hr.cs_len
  rcases hr with ⟨rfl, rfl, rfl⟩ | ⟨b, cap, ex, rest, rfl, h1, h2, h3, h4⟩
  · have := app_nils (T := T) (h := h.alloc (.cells new .own)) ht hd he (isSrc_sl ht hd) hsrc hb (by omega) (by simpa using hsm)
    rw [hz] at this
    refine ⟨_, _, this, .inr ⟨h.next + 1, 1, false, [], rfl, by simp [hl], by simp [hl], by simp, by rw [AH.get_alloc, if_pos (by simp)]; simp⟩, by simp, fun c hc _ => ?_, fun b o l k z x hv => by cases hv; exact .inl (by simp)⟩
    rw [AH.get_alloc, if_neg (by simp; omega), AH.get_alloc, if_neg (by omega)]
  · have hg : (h.alloc (.cells new .own)).get b = some (.cells (cs ++ rest) .own) := by rw [AH.get_alloc, if_neg (by omega)]; exact h4
    by_cases hc : n + 1 ≤ cap
    · have hrl : sz ≤ rest.length := by
        have : (n + 1) * sz ≤ cap * sz := Nat.mul_le_mul_right _ hc
        rw [Nat.add_mul, Nat.one_mul] at this; omega
      have hsp : AH.splice (cs ++ rest) (n * sz) new = cs ++ new ++ rest.drop sz := by
        unfold AH.splice
        rw [← h1, List.take_left, hl, ← List.drop_drop, List.drop_left]
      refine ⟨.sl b 0 (n + 1) cap sz ex, (h.alloc (.cells new .own)).put b (.cells (cs ++ new ++ rest.drop sz) .own), ?_, .inr ⟨b, cap, ex, rest.drop sz, rfl, by rw [List.length_append, hl, h1, Nat.add_mul, Nat.one_mul], ?_, by simp; omega, by rw [AH.get_put, if_pos rfl]⟩, by simp, fun c hc hoff => ?_, fun b' o l k z x hv => by cases hv; exact .inr ⟨_, _, _, _, _, rfl⟩⟩
      · simp only [aAppend, ht, hd, he, isSrc_sl ht hd, hsrc]
        rw [if_pos hz, if_pos hc, Nat.zero_add]
        simp only [AH.storen, hg]
        rw [if_pos ⟨by rw [List.length_append]; omega, hone⟩, hsp]
        rfl
      · rw [List.length_append, List.length_drop]; omega
      · rw [AH.get_put, if_neg (hoff _ _ _ _ _ _ rfl), AH.get_alloc, if_neg (by omega)]
    · have hcap : cap = n := by
        have : n * sz ≤ cap * sz := by omega
        have := Nat.le_of_mul_le_mul_right this hs0
        omega
      have hrest : rest = [] := by
        rw [hcap] at h2
        exact List.length_eq_zero_iff.1 (by omega)
      subst hcap hrest
      rw [List.append_nil] at h4 hg
      have htk : List.take (cap * sz) (List.drop 0 cs) = cs := by rw [List.drop_zero, List.take_of_length_le (by omega)]
      cases ex with
      | true =>
        have := app_slx (T := T) (h := h.alloc (.cells new .own)) ht hd he (isSrc_sl ht hd) hsrc hb hz hg (o := 0) (len := cap) (by omega) (by omega) hsm
        rw [htk] at this
        refine ⟨_, _, this, .inr ⟨h.next + 1, cap + 1, false, [], rfl, by rw [List.length_append, hl, h1, Nat.add_mul, Nat.one_mul], by rw [List.length_append, hl, h1, Nat.add_mul, Nat.one_mul]; simp, by simp, by rw [AH.get_alloc, if_pos (by simp)]; simp⟩, by simp, fun c hc hoff => ?_, fun b o l k z x hv => by cases hv; exact .inl (by simp)⟩
        rw [AH.get_alloc, if_neg (by simp; omega), AH.get_alloc, if_neg (by omega)]
      | false =>
        have := app_sl (T := T) (h := h.alloc (.cells new .own)) ht hd he (isSrc_sl ht hd) hsrc hb hz hg (o := 0) (len := cap) (by omega) (by omega) hsm hone
        rw [htk] at this
        refine ⟨_, _, this, .inr ⟨h.next + 1, cap + 1, false, [], rfl, by rw [List.length_append, hl, h1, Nat.add_mul, Nat.one_mul], by rw [List.length_append, hl, h1, Nat.add_mul, Nat.one_mul]; simp, by simp, by rw [AH.get_alloc, if_pos (by simp)]; simp⟩, by simp, fun c hc hoff => ?_, fun b o l k z x hv => by cases hv; exact .inl (by simp)⟩
        rw [AH.get_alloc, if_neg (by simp; omega), AH.get_put, if_neg (hoff _ _ _ _ _ _ rfl), AH.get_alloc, if_neg (by omega)]
/-- All that was there is as it was; there may be more. -/
def Grow (h h2 : AH) : Prop := h.next ≤ h2.next ∧ ∀ c, c < h.next → h2.get c = h.get c
theorem Grow.refl (h : AH) : Grow h h := ⟨Nat.le_refl _, fun _ _ => rfl⟩
theorem Grow.trans {a b c : AH} (h : Grow a b) (k : Grow b c) : Grow a c := ⟨Nat.le_trans h.1 k.1, fun x hx => by rw [k.2 x (Nat.lt_of_lt_of_le hx h.1), h.2 x hx]⟩
theorem Grow.alloc (h : AH) (x : AB) : Grow h (h.alloc x) := ⟨by simp, fun c hc => by rw [AH.get_alloc, if_neg (by omega)]⟩
theorem RowC.grow {sz n : Nat} {h h2 : AH} {v : AV} {cs : List AV} (hr : RowC sz h v n cs) (hg : Grow h h2) : RowC sz h2 v n cs :=
  hr.keep hg.1 fun b o l k z x hv => hg.2 b (hr.lt hv)
end Go.AM.Sx
namespace Go.AM.Sx
open Go Go.AM
set_option linter.unusedSimpArgs false
set_option linter.unusedVariables false
section
variable {C : Cf} {T : TT} {e : Env} {h : AH} {dst : Option Nat} {type : TypeId} {pos : String} {after : Array Edge} {guard : Option (Nat × Bool)}
theorem o_clear {x t} : outOf C T ⟨dst, .call ⟨.builtin .clear, #[x], #[t]⟩, type, pos, after, guard⟩ e h = .h (aClear T t (ev e x) h) := (rfl)
end
theorem sl_slC {T : TT} {t el : Nat} {ti te : TI} {b o len cap sz l u m : Nat} {ex : Bool} {lo hi mx : Option AV} (ht : T t = some ti) (hd : ti.desc = .slice el) (he : T el = some te) (hz : te.size = sz) (hm : bnd mx cap = some m) (hu : bnd hi len = some u) (hl : bnd lo 0 = some l)
    (h1 : l ≤ u) (h2 : u ≤ m) (h3 : m ≤ cap) (h4 : mx.isSome → hi.isSome) : aSlice T t (.sl b o len cap sz ex) lo hi mx = some (.sl b (o + l * sz) (u - l) (m - l) sz (ex || mx.isSome)) := by
  simp only [aSlice, ht, hd, he, hm, hu, hl]
  rw [if_pos ⟨h1, h2, h3, hz, h4⟩]
theorem bnd_nat {i d : Nat} : bnd (some (.int .i64 ((i : Nat) : Int))) d = some i := by simp [bnd]
end Go.AM.Sx
namespace Go.AM.Sx
open Go Go.AM
set_option linter.unusedSimpArgs false
set_option linter.unusedVariables false
theorem repl_len (z : List AV) : ∀ n : Nat, (repl z n).length = n * z.length
  | 0 => by simp [repl]
  | n + 1 => by simp only [repl, List.length_append, repl_len z n, Nat.add_mul, Nat.one_mul]; omega
theorem repl_one (z : List AV) (h : z.all AV.one = true) : ∀ n : Nat, (repl z n).all AV.one = true
  | 0 => rfl
  | n + 1 => by simp only [repl, List.all_append, h, repl_one z h n]; rfl
theorem RowC.trunc {T : TT} {t el : Nat} {ti te : TI} {sz n j : Nat} {h : AH} {v : AV} {cs : List AV} (ht : T t = some ti) (hd : ti.desc = .slice el) (he : T el = some te) (hz : te.size = sz) (hs0 : 0 < sz) (hzl : te.zero.length = sz) (hz1 : te.zero.all AV.one = true)
    (hr : RowC sz h v n cs) (hn : 0 < n) (hj : j ≤ n) :
    ∃ x38 h2 v2, aSlice T t v (some (.int .i64 (j : Nat))) none none = some x38 ∧ aClear T t x38 h = some h2 ∧ aSlice T t v none (some (.int .i64 (j : Nat))) none = some v2 ∧
      RowC sz h2 v2 j (cs.take (j * sz)) ∧ h2.next = h.next ∧ (∀ c, offRow v c → h2.get c = h.get c) ∧ (∀ b o l k z x, v2 = .sl b o l k z x → ∃ o l k z x, v = .sl b o l k z x) := by
  rcases hr with ⟨rfl, rfl, rfl⟩ | ⟨b, cap, ex, rest, rfl, h1, h2, h3, h4⟩
  · omega
  have hncap : n ≤ cap := Nat.le_of_mul_le_mul_right (show n * sz ≤ cap * sz by omega) hs0
  have e1 : j * sz ≤ n * sz := Nat.mul_le_mul_right _ hj
  have e2 : (n - j) * sz = n * sz - j * sz := Nat.sub_mul _ _ _
  obtain ⟨A, hA⟩ : ∃ A, A = cs.take (j * sz) := ⟨_, rfl⟩
  have hAl : A.length = j * sz := by rw [hA, List.length_take]; omega
  have hrl : (repl te.zero (n - j)).length = n * sz - j * sz := by rw [repl_len, hzl, e2]
  have hsp : AH.splice (cs ++ rest) (0 + j * sz) (repl te.zero (n - j)) = A ++ (repl te.zero (n - j) ++ rest) := by
    unfold AH.splice
    rw [Nat.zero_add, List.take_append_of_le_length (by omega), ← hA, hrl, show j * sz + (n * sz - j * sz) = cs.length by omega, List.drop_left, List.append_assoc]
  refine ⟨_, h.put b (.cells (A ++ (repl te.zero (n - j) ++ rest)) .own), .sl b 0 j cap sz (ex || false), sl_slC ht hd he hz (m := cap) (u := n) rfl rfl bnd_nat (by omega) hncap (Nat.le_refl _) (by simp), ?_, ?_, ?_, rfl, fun c hoff => ?_, fun b' o l k z x hv => by cases hv; exact ⟨_, _, _, _, _, rfl⟩⟩
  · simp only [aClear, ht, hd, he]
    rw [if_pos hz]
    simp only [AH.storen, h4]
    rw [if_pos ⟨by rw [hrl, List.length_append]; omega, repl_one _ hz1 _⟩, hsp]
  · have := sl_slC (T := T) (b := b) (o := 0) (ex := ex) (mx := none) ht hd he hz (m := cap) (l := 0) (len := n) (cap := cap) (lo := none) rfl (bnd_nat (i := j)) rfl (by omega) (by omega) (Nat.le_refl _) (by simp)
    simpa using this
  · refine .inr ⟨b, cap, ex || false, _, rfl, by rw [← hA]; exact hAl, ?_, h3, by rw [AH.get_put, if_pos rfl, ← hA]⟩
    rw [← hA, hAl, List.length_append, hrl]
    omega
  · rw [AH.get_put, if_neg (hoff _ _ _ _ _ _ rfl)]
/-- A row that is all new since a heap. -/
def Fresh (h : AH) (v : AV) : Prop := ∀ b o l k z x, v = .sl b o l k z x → h.next ≤ b
theorem Fresh.off {h : AH} {v : AV} (hv : Fresh h v) {c : Nat} (hc : c < h.next) : offRow v c := by
  intro b o l k z x e
  have := hv _ _ _ _ _ _ e
  omega
theorem idx_find {α : Type} (p : α → Bool) : ∀ (l : List α) (k : Nat), (∃ i, idxAt p k l = ((k + i : Nat) : Int) ∧ l.findIdx? p = some i ∧ i < l.length) ∨ (idxAt p k l = -1 ∧ l.findIdx? p = none)
  | [], k => .inr ⟨rfl, rfl⟩
  | x :: xs, k => by
    rw [List.findIdx?_cons]
    simp only [idxAt]
    cases hx : p x
    · rcases idx_find p xs (k + 1) with ⟨i, h1, h2, h3⟩ | ⟨h1, h2⟩
      · refine .inl ⟨i + 1, ?_, by simp [h2], by simp; omega⟩
        rw [if_neg (by simp), h1]; omega
      · refine .inr ⟨?_, by simp [h2]⟩
        rw [if_neg (by simp), h1]
    · exact .inl ⟨0, by simp, by simp, by simp⟩
/-- What is none of a thing's own is as it was, and is none of its own behind it. -/
def Stf (h h2 : AH) (o o2 : Nat → Prop) : Prop := h.next ≤ h2.next ∧ ∀ c, c < h.next → o c → h2.get c = h.get c ∧ o2 c
theorem Stf.trans {h h2 h3 : AH} {o o2 o3 : Nat → Prop} (a : Stf h h2 o o2) (b : Stf h2 h3 o2 o3) : Stf h h3 o o3 :=
  ⟨Nat.le_trans a.1 b.1, fun c hc ho => by
    have h1 := a.2 c hc ho
    have h2 := b.2 c (Nat.lt_of_lt_of_le hc a.1) h1.2
    exact ⟨h2.1.trans h1.1, h2.2⟩⟩
theorem Stf.grow {h h2 : AH} (o : Nat → Prop) (a : Grow h h2) : Stf h h2 o o := ⟨a.1, fun c hc ho => ⟨a.2 c hc, ho⟩⟩
theorem Stf.refl (h : AH) (o : Nat → Prop) : Stf h h o o := Stf.grow o (Grow.refl h)
/-- Two things of which no block is a part of both. -/
def Apt (o o2 : Nat → Prop) : Prop := ∀ c, o c ∨ o2 c
theorem Apt.symm {o o2 : Nat → Prop} (h : Apt o o2) : Apt o2 o := fun c => (h c).symm
theorem Apt.step {h h2 : AH} {o o2 u : Nat → Prop} (hA : Apt o u) (hS : Stf h h2 o o2) (hu : ∀ c, h.next ≤ c → u c) : Apt o2 u := fun c => by
  rcases Nat.lt_or_ge c h.next with hc | hc
  · rcases hA c with h1 | h1
    · exact .inl (hS.2 c hc h1).2
    · exact .inr h1
  · exact .inr (hu c hc)
theorem RowC.other {sz n : Nat} {h h2 : AH} {v : AV} {cs : List AV} {o o2 : Nat → Prop} (hr : RowC sz h v n cs) (hA : Apt o (offRow v)) (hS : Stf h h2 o o2) : RowC sz h2 v n cs ∧ Apt o2 (offRow v) :=
  ⟨hr.keep hS.1 fun b _ _ _ _ _ e => (hS.2 b (hr.lt e) ((hA b).resolve_right fun h => h _ _ _ _ _ _ e rfl)).1, hA.step hS fun c hc b _ _ _ _ _ e => by have := hr.lt e; omega⟩
section
variable {T : TT} {t e : Nat} {ti te : TI} {b o b' o' : Nat} {h : AH} {cs cs' : List AV}
end
end Go.AM.Sx
namespace Go.AM.Sx
open Go Go.AM
set_option linter.unusedSimpArgs false
set_option linter.unusedVariables false
section
variable {α : Type} (enc : α → List AV) (k : Nat) (hk : ∀ x, (enc x).length = k)
def fl (l : List α) : List AV := l.flatMap enc
include hk
theorem fl_len (l : List α) : (fl enc l).length = l.length * k := by
  induction l with
  | nil => simp [fl]
  | cons x l ih => unfold fl at ih ⊢; rw [List.flatMap_cons, List.length_append, ih, hk, List.length_cons, Nat.add_mul]; omega
theorem fl_take : ∀ (l : List α) (i : Nat), (fl enc l).take (i * k) = fl enc (l.take i)
  | [], i => by simp [fl]
  | x :: l, 0 => by simp [fl]
  | x :: l, i + 1 => by
    have ih := fl_take l i
    unfold fl at ih ⊢
    rw [List.flatMap_cons, List.take_succ_cons, List.flatMap_cons, ← ih, show (i + 1) * k = (enc x).length + i * k by rw [hk, Nat.add_mul]; omega, List.take_length_add_append]
theorem fl_drop : ∀ (l : List α) (i : Nat), (fl enc l).drop (i * k) = fl enc (l.drop i)
  | [], i => by simp [fl]
  | x :: l, 0 => by simp
  | x :: l, i + 1 => by
    have ih := fl_drop l i
    unfold fl at ih ⊢
    rw [List.flatMap_cons, List.drop_succ_cons, ← ih, show (i + 1) * k = (enc x).length + i * k by rw [hk, Nat.add_mul]; omega, List.drop_length_add_append]
omit hk in
theorem fl_app (a b : List α) : fl enc (a ++ b) = fl enc a ++ fl enc b := by simp [fl]
theorem fl_at {l : List α} {i : Nat} {x : α} (hx : l[i]? = some x) (rest : List AV) : ((fl enc l ++ rest).drop (i * k)).take k = enc x := by
  have hi := (List.getElem?_eq_some_iff.1 hx).1
  have he := (List.getElem?_eq_some_iff.1 hx).2
  have hlt : (i + 1) * k ≤ l.length * k := Nat.mul_le_mul_right _ hi
  rw [List.drop_append_of_le_length (by rw [fl_len enc k hk]; rw [Nat.add_mul] at hlt; omega), fl_drop enc k hk, List.drop_eq_getElem_cons hi, he]
  show (enc x ++ fl enc _ ++ rest).take k = _
  rw [List.append_assoc, ← hk x, List.take_left]
theorem fl_set {l : List α} {i : Nat} (hi : i < l.length) (y : α) (rest : List AV) : AH.splice (fl enc l ++ rest) (i * k) (enc y) = fl enc (l.set i y) ++ rest := by
  have hlt : (i + 1) * k ≤ l.length * k := Nat.mul_le_mul_right _ hi
  have e1 : (i + 1) * k = i * k + k := by rw [Nat.add_mul, Nat.one_mul]
  unfold AH.splice
  rw [hk y, ← e1, List.take_append_of_le_length (by rw [fl_len enc k hk]; omega), List.drop_append_of_le_length (by rw [fl_len enc k hk]; omega), fl_take enc k hk, fl_drop enc k hk, List.set_eq_take_append_cons_drop, if_pos hi, fl_app]
  simp [fl]
variable {T : TT} {t el : Nat} {ti te : TI} (ht : T t = some ti) (hd : ti.desc = .slice el) (he : T el = some te) (hz : te.size = k)
include ht hd he hz
theorem loadR {h : AH} {v : AV} {l : List α} {i : Nat} {x : α} (hr : RowC k h v l.length (fl enc l)) (hx : l[i]? = some x) :
    ∃ b cs kk, aIndexAddr T t v (.int .i64 (i : Nat)) = some (.ptr b (i * k)) ∧ h.get b = some (.cells cs kk) ∧ i * k + k ≤ cs.length ∧ (cs.drop (i * k)).take k = enc x := by
  have hi := (List.getElem?_eq_some_iff.1 hx).1
  obtain ⟨b, rest, _, h1, h2, h3⟩ := hr.at_ ht hd he hz hi
  have hlt : (i + 1) * k ≤ l.length * k := Nat.mul_le_mul_right _ hi
  exact ⟨b, _, _, h1, h2, by rw [List.length_append, fl_len enc k hk]; rw [Nat.add_mul] at hlt; omega, fl_at enc k hk hx _⟩
/-- An element is written. -/
theorem storeR {h : AH} {v : AV} {l : List α} {i : Nat} {x : α} (y : α) (hr : RowC k h v l.length (fl enc l)) (hx : l[i]? = some x) (h1 : (enc y).all AV.one = true) :
    ∃ b h2, aIndexAddr T t v (.int .i64 (i : Nat)) = some (.ptr b (i * k)) ∧ aStore T el (.ptr b (i * k)) (.agg (enc y)) h = some h2 ∧ RowC k h2 v l.length (fl enc (l.set i y)) ∧ h2.next = h.next ∧ (∀ c, offRow v c → h2.get c = h.get c) ∧ (∃ cs, h.get b = some (.cells cs .own)) ∧ ∃ o len cap z ex, v = .sl b o len cap z ex := by
  have hi := (List.getElem?_eq_some_iff.1 hx).1
  rcases hr with ⟨rfl, h0, _⟩ | ⟨b, cap, ex, rest, rfl, q1, q2, q3, q4⟩
  · omega
  have hlt : (i + 1) * k ≤ l.length * k := Nat.mul_le_mul_right _ hi
  have e1 : (i + 1) * k = i * k + k := by rw [Nat.add_mul, Nat.one_mul]
  have hs := fl_set enc k hk hi y rest
  have hst : aStore T el (.ptr b (i * k)) (.agg (enc y)) h = some (h.put b (.cells (fl enc (l.set i y) ++ rest) .own)) := by
    simp only [aStore, he, AV.cells]
    rw [if_pos (by rw [hk, hz])]
    simp only [AH.storen, q4]
    rw [if_pos ⟨by rw [hk, List.length_append, q1]; omega, h1⟩, hs]
  refine ⟨b, _, ?_, hst, .inr ⟨b, cap, ex, rest, rfl, by rw [fl_len enc k hk, List.length_set], by rw [fl_len enc k hk, List.length_set, ← fl_len enc k hk l]; exact q2, q3, by rw [AH.get_put, if_pos rfl]⟩, rfl, fun c hc => by rw [AH.get_put, if_neg (hc _ _ _ _ _ _ rfl)], ⟨_, q4⟩, _, _, _, _, _, rfl⟩
  rw [ia_sl ht hd he hz, if_pos ⟨by omega, by omega⟩]
  simp
/-- A cell of an element is written. -/
theorem storeC {t1 : Nat} {ti1 : TI} (ht1 : T t1 = some ti1) (hz1 : ti1.size = 1) {h : AH} {v w : AV} {l : List α} {i j : Nat} {x y : α} (hr : RowC k h v l.length (fl enc l)) (hx : l[i]? = some x) (hj : j < k) (hy : enc y = (enc x).set j w) (hw : w.cells = some [w]) (hw1 : w.one = true) :
    ∃ b h2, aIndexAddr T t v (.int .i64 (i : Nat)) = some (.ptr b (i * k)) ∧ aStore T t1 (.ptr b (i * k + j)) w h = some h2 ∧ RowC k h2 v l.length (fl enc (l.set i y)) ∧ h2.next = h.next ∧ (∀ c, offRow v c → h2.get c = h.get c) ∧ (∃ o len cap z ex, v = .sl b o len cap z ex) := by
  have hi := (List.getElem?_eq_some_iff.1 hx).1
  rcases hr with ⟨rfl, h0, _⟩ | ⟨b, cap, ex, rest, rfl, q1, q2, q3, q4⟩
  · omega
  have hlt : (i + 1) * k ≤ l.length * k := Nat.mul_le_mul_right _ hi
  have e1 : (i + 1) * k = i * k + k := by rw [Nat.add_mul, Nat.one_mul]
  have hs := fl_set enc k hk hi y rest
  have hcell : (fl enc l ++ rest).set (i * k + j) w = fl enc (l.set i y) ++ rest := by
    rw [← hs]
    unfold AH.splice
    rw [hk y, hy]
    have hx2 := fl_at enc k hk hx rest
    have hsplit : fl enc l ++ rest = (fl enc l ++ rest).take (i * k) ++ (enc x ++ (fl enc l ++ rest).drop (i * k + k)) := by
      rw [← hx2, ← List.drop_drop, List.take_append_drop, List.take_append_drop]
    have hlen : ((fl enc l ++ rest).take (i * k)).length = i * k := by rw [List.length_take, List.length_append, q1]; omega
    conv => lhs; rw [hsplit]
    rw [List.set_append_right _ _ (by omega), hlen, Nat.add_sub_cancel_left, List.set_append_left _ _ (by rw [hk]; exact hj), List.append_assoc]
  refine ⟨b, h.put b (.cells (fl enc (l.set i y) ++ rest) .own), ?_, ?_, .inr ⟨b, cap, ex, rest, rfl, by rw [fl_len enc k hk, List.length_set], by rw [fl_len enc k hk, List.length_set, ← fl_len enc k hk l]; exact q2, q3, by rw [AH.get_put, if_pos rfl]⟩, rfl, fun c hc => by rw [AH.get_put, if_neg (hc _ _ _ _ _ _ rfl)], _, _, _, _, _, rfl⟩
  · rw [ia_sl ht hd he hz, if_pos ⟨by omega, by omega⟩]
    simp
  · rw [store_1 ht1 hz1 hw hw1 q4 (by rw [List.length_append, q1]; omega), hcell]
end
end Go.AM.Sx
