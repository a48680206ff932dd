/- Values as data: how arguments are read, and results written. Own work. -/
import Derived.Test.YtleefbnanliliaaDoorAmSimp2
namespace Go.AM.Sx
open Go Go.AM
set_option linter.unusedVariables false
set_option linter.unusedSimpArgs false
/-! elements -/
theorem Wk.trans {a b c : AV} (h : Wk a b) (k : Wk b c) : Wk a c := fun μ x hx => k μ x (h μ x hx)
section
variable {P : Program} {F : Nat → Option FI} {I : Nat → Option (List AV → AH → Rs)} {T : TT} (hT : TAgree P T) (hmix : P.follows .mixedOrders = true) (hF : FAgree P F) (hI : IAgree P I)
include hT hmix hF hI
end
theorem fin {F : Nat → Option FI} {I : Nat → Option (List AV → AH → Rs)} {T : TT} {n f : Nat} {args : List AV} {r : AV} (hc : ∃ h', call F I T n f args e0 = some (r, h')) (hf : ∀ h, frzF false 3 h r = some r) :
    ∃ n k h1 v1 v0, call F I T n f args e0 = some (v1, h1) ∧ frzF false k h1 v1 = some v0 ∧ Wk v0 r := by
  obtain ⟨h', hc⟩ := hc
  exact ⟨n, 3, h', r, r, hc, hf h', Wk.refl r⟩
theorem wrap_i64 {x : Int} (h1 : -9223372036854775808 ≤ x) (h2 : x < 9223372036854775808) : IntKind.i64.wrap x = x := by
  simp only [IntKind.wrap, IntKind.bits, IntKind.signed]
  simp
  omega
/-- The place of the first, or -1. -/
def idxAt {α : Type} (p : α → Bool) : Nat → List α → Int
  | _, [] => -1
  | i, x :: xs => if p x = true then (i : Int) else idxAt p (i + 1) xs
theorem idxAt_nonneg {α : Type} (p : α → Bool) : ∀ (l : List α) (i : Nat), (0 ≤ idxAt p i l) = (l.any p = true)
  | [], i => by simp [idxAt]
  | x :: xs, i => by
    have ih := idxAt_nonneg p xs (i + 1)
    by_cases hp : p x = true
    · simp [idxAt, hp]
    · simp only [idxAt, if_neg hp, ih, List.any_cons]; simp [hp]
theorem oc_nils : ofConst (.slice none 0 0) = .nils := (rfl)
theorem oc_nilp : ofConst (.pointer none) = .nilp := (rfl)
theorem oc_nilf : ofConst .nilFunc = .nilf := (rfl)
theorem oc_nilm : ofConst (.map none) = .nilm := (rfl)
/-- A row that grows: nil, or a block of the call's own. -/
def Row (sz : Nat) (h : AH) (v : AV) (n : Nat) (cs : List AV) : Prop :=
  (v = .nils ∧ n = 0 ∧ cs = []) ∨ (∃ b, v = .sl b 0 n n sz false ∧ 0 < n ∧ cs.length = n * sz ∧ b < h.next ∧ h.get b = some (.cells cs .own))
theorem Row.nil (sz : Nat) (h : AH) : Row sz h .nils 0 [] := .inl ⟨rfl, rfl, rfl⟩
/-- The block of a row. -/
def offRow (v : AV) (c : Nat) : Prop := ∀ b o l k z x, v = .sl b o l k z x → c ≠ b
theorem Row.app {T : TT} {h : AH} {t xt el : Nat} {ti te : TI} {v x : AV} {n m sz : Nat} {cs new : List AV} (ht : T t = some ti) (hd : ti.desc = .slice el) (he : T el = some te) (hx : isSrc T xt = true) (hz : te.size = sz) (hb : 0 < te.bytes)
    (ho : Row sz h v n cs) (hs : aSource te.size x h = some (m, new)) (hm : 0 < m) (hl : new.length = m * sz) (hone : new.all AV.one = true) (hsm : (n + m) * te.bytes < maxBytes) :
    ∃ b h2, aAppend T t xt v x h = some (.sl b 0 (n + m) (n + m) sz false, h2) ∧ Row sz h2 (.sl b 0 (n + m) (n + m) sz false) (n + m) (cs ++ new) ∧ h.next ≤ h2.next ∧ h.next ≤ b ∧ (∀ c, c < h.next → offRow v c → h2.get c = h.get c) := by
  rcases ho with ⟨rfl, rfl, rfl⟩ | ⟨b, rfl, hn, hcl, hbn, hg⟩
  · have := app_nils (h := h) ht hd he hx hs hb (by omega) (by simpa using hsm)
    rw [hz] at this
    refine ⟨h.next, h.alloc (.cells new .own), by simpa using this, .inr ⟨h.next, rfl, by omega, by simpa using hl, by simp, by rw [AH.get_alloc, if_pos rfl]; simp⟩, by simp, Nat.le_refl _, fun c hc _ => ?_⟩
    rw [AH.get_alloc, if_neg (by omega)]
  · have := app_sl (h := h) (n := m) (len := n) (o := 0) ht hd he hx hs hb hz hg (by omega) (by omega) hsm hone
    have hcs : List.take (n * sz) (List.drop 0 cs) = cs := by rw [List.drop_zero, List.take_of_length_le (by omega)]
    rw [hcs] at this
    refine ⟨h.next, _, this, .inr ⟨h.next, rfl, by omega, by rw [List.length_append, hcl, hl, Nat.add_mul], by simp, ?_⟩, by simp, Nat.le_refl _, fun c hc hoff => ?_⟩
    · rw [AH.get_alloc, if_pos (by simp)]
    · rw [AH.get_alloc, if_neg (by simp; omega), AH.get_put, if_neg (hoff _ _ _ _ _ _ rfl)]
theorem Row.keep {sz : Nat} {h h2 : AH} {v : AV} {n : Nat} {cs : List AV} (ho : Row sz h v n cs) (hn : h.next ≤ h2.next) (hk : ∀ b, v = .sl b 0 n n sz false → h2.get b = h.get b) : Row sz h2 v n cs := by
  rcases ho with h | ⟨b, rfl, h1, h2', h3, h4⟩
  · exact .inl h
  · exact .inr ⟨b, rfl, h1, h2', by omega, by rw [hk b rfl]; exact h4⟩
theorem Row.alloc {sz : Nat} {h : AH} {v : AV} {n : Nat} {cs : List AV} (ho : Row sz h v n cs) (x : AB) : Row sz (h.alloc x) v n cs := by
  rcases ho with h | ⟨b, rfl, h1, h2', h3, h4⟩
  · exact .inl h
  · exact .inr ⟨b, rfl, h1, h2', by simp; omega, by rw [AH.get_alloc, if_neg (by omega)]; exact h4⟩
/-- What such a row reads as at the end. -/
theorem Row.frz {al : Bool} {sz : Nat} {h : AH} {v : AV} {n : Nat} {cs cs' : List AV} (ho : Row sz h v n cs) (k : Nat) (hf : frzMap (frzF al k h) cs = some cs') (hl : cs'.length = n * sz) : ∃ v0, frzF al (k + 1) h v = some v0 ∧ Wk v0 (.lst false sz n cs') := by
  rcases ho with ⟨rfl, rfl, rfl⟩ | ⟨b, rfl, h1, h2', h3, h4⟩
  · simp only [frzMap, Option.some.injEq] at hf
    subst hf
    exact ⟨.nils, by simp [frzF, AV.flat], Wk.nils _ _⟩
  · have h5 : List.take (n * sz) (List.drop 0 cs) = cs := by rw [List.drop_zero, List.take_of_length_le (by omega)]
    refine ⟨.lst false sz n cs', ?_, Wk.refl _⟩
    simp only [frzF, h4, Bool.or_true, h5, hf]
    rw [if_pos (by omega)]
    simp
end Go.AM.Sx
