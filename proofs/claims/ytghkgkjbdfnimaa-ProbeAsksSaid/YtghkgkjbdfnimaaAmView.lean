/- Values as data: how arguments are read, and results written. Own work. -/
import Derived.Test.YtghkgkjbdfnimaaAmSimp2
namespace Go.AM.Sx
open Go Go.AM
set_option linter.unusedVariables false
set_option linter.unusedSimpArgs false

/-- A way to read a value as data. -/
structure View (α : Type) where
  enc : α → AV
  dec : AV → Option α
  law : ∀ a x, dec a = some x → Wk a (enc x)
  flat : ∀ x, (enc x).flat = true

def asLst (sz : Nat) : AV → Option (List AV)
  | .nils => some []
  | .lst _ s n cs => if s = sz ∧ cs.length = n * sz then some cs else none
  | _ => none

/-- A list, each element of so many cells. -/
def mkL (sz : Nat) (cs : List AV) : AV := .lst false sz (cs.length / sz) cs

theorem asLst_wk {sz : Nat} (hz : 0 < sz) {a : AV} {cs : List AV} (h : asLst sz a = some cs) : Wk a (mkL sz cs) := by
  cases a <;> simp only [asLst] at h <;> try (cases h; done)
  · cases h
    have : mkL sz [] = .lst false sz 0 [] := by simp [mkL]
    rw [this]; exact Wk.nils _ _
  · split at h
    · rename_i hc
      obtain ⟨rfl, hl⟩ := hc
      cases h
      unfold mkL
      rw [hl, Nat.mul_div_cancel _ hz]
      exact Wk.lst _ _ _ _
    · cases h

theorem asLst_lst {sz n : Nat} {ex : Bool} {cs : List AV} (h : cs.length = n * sz) : asLst sz (.lst ex sz n cs) = some cs := by simp [asLst, h]
theorem asLst_mkL {sz n : Nat} {cs : List AV} (hz : 0 < sz) (h : cs.length = n * sz) : asLst sz (mkL sz cs) = some cs := by
  unfold mkL; exact asLst_lst (by rw [h, Nat.mul_div_cancel _ hz])

/-! elements -/
def allM {α : Type} (f : AV → Option α) : List AV → Option (List α)
  | [] => some []
  | a :: as => match f a, allM f as with
    | some x, some xs => some (x :: xs)
    | _, _ => none
theorem allM_map {α : Type} {f : AV → Option α} {g : α → AV} (h : ∀ x, f (g x) = some x) : ∀ l : List α, allM f (l.map g) = some l
  | [] => rfl
  | x :: l => by simp [allM, h, allM_map h l]
theorem allM_wk {α : Type} {f : AV → Option α} {g : α → AV} (h : ∀ a x, f a = some x → Wk a (g x)) : ∀ {as : List AV} {xs : List α}, allM f as = some xs → WkL as (xs.map g) ∧ xs.length = as.length
  | [], xs, hx => by simp [allM] at hx; subst hx; exact ⟨WkL.nil, rfl⟩
  | a :: as, xs, hx => by
    simp only [allM] at hx
    split at hx
    · rename_i x ys h1 h2
      cases hx
      obtain ⟨i1, i2⟩ := allM_wk h h2
      exact ⟨WkL.cons (h _ _ h1) i1, by simp [i2]⟩
    · cases hx

theorem Wk.trans {a b c : AV} (h : Wk a b) (k : Wk b c) : Wk a c := fun μ x hx => k μ x (h μ x hx)
theorem Wk.lstL {ex : Bool} {sz n : Nat} {cs cs' : List AV} (h : WkL cs cs') (hl : cs'.length = cs.length) : Wk (.lst ex sz n cs) (.lst ex sz n cs') := fun μ x hx => by
  obtain ⟨a, c, h1, h2, h3, h4, h5, h6⟩ := hx.lst_inv
  rw [VR]
  exact ⟨a, c, h1, h2, h3, by rw [hl]; exact h4, h5, fun hn => let ⟨cb, off, arr, g1, g2, g3, g4⟩ := h6 hn; ⟨cb, off, arr, g1, g2, g3, h _ _ g4⟩⟩
theorem flatL_map {α : Type} {g : α → AV} (h : ∀ x, (g x).flat = true) : ∀ l : List α, flatL (l.map g) = true
  | [] => rfl
  | x :: l => by simp [flatL, h, flatL_map h l]

/-- A list of elements of one cell. -/
def vList {α : Type} (v : View α) : View (List α) where
  enc l := .lst false 1 l.length (l.map v.enc)
  dec a := (asLst 1 a).bind (allM v.dec)
  law a x h := by
    simp only [Option.bind_eq_some_iff] at h
    obtain ⟨cs, h1, h2⟩ := h
    obtain ⟨h3, h4⟩ := allM_wk v.law h2
    refine Wk.trans (asLst_wk (by decide) h1) ?_
    unfold mkL
    rw [Nat.div_one, ← h4]
    exact Wk.lstL h3 (by simp [h4])
  flat x := by simp only [AV.flat]; exact flatL_map v.flat x

def dInt (k : IntKind) : AV → Option Int
  | .int k' n => if k = k' then some n else none
  | _ => none
def vInt (k : IntKind) : View Int where
  enc n := .int k n
  dec := dInt k
  law a x h := by
    cases a <;> simp [dInt] at h
    obtain ⟨rfl, rfl⟩ := h
    exact Wk.refl _
  flat _ := rfl
def dBool : AV → Option Bool
  | .bool b => some b
  | _ => none
def vBool : View Bool where
  enc n := .bool n
  dec := dBool
  law a x h := by
    cases a <;> simp [dBool] at h
    subst h
    exact Wk.refl _
  flat _ := rfl
def dStr : AV → Option (List UInt8)
  | .str s => some s
  | _ => none
def vStr : View (List UInt8) where
  enc n := .str n
  dec := dStr
  law a x h := by
    cases a <;> simp [dStr] at h
    subst h
    exact Wk.refl _
  flat _ := rfl
def dByte : AV → Option UInt8
  | .int .u8 n => if 0 ≤ n ∧ n < 256 then some (UInt8.ofNat n.toNat) else none
  | _ => none
def vByte : View UInt8 where
  enc c := .int .u8 c.toNat
  dec := dByte
  law a x h := by
    cases a <;> simp only [dByte] at h <;> try (cases h; done)
    rename_i k n
    cases k <;> simp at h
    obtain ⟨h1, rfl⟩ := h
    have : (((UInt8.ofNat n.toNat).toNat : Nat) : Int) = n := by
      simp
      omega
    rw [this]
    exact Wk.refl _
  flat _ := rfl
theorem dByte_enc (c : UInt8) : dByte (.int .u8 c.toNat) = some c := by
  have h : ((c.toNat : Nat) : Int) < 256 := by have := c.toNat_lt; omega
  simp only [dByte]
  rw [if_pos ⟨by omega, h⟩]
  simp

/-- Functions of one value, two, three. -/
def G1 {α : Type} (v : View α) (s : α → Option AV) : List AV → Option AV
  | [a] => (v.dec a).bind s
  | _ => none
def G2 {α β : Type} (v : View α) (w : View β) (s : α → β → Option AV) : List AV → Option AV
  | [a, b] => (v.dec a).bind fun x => (w.dec b).bind fun y => s x y
  | _ => none
def G3 {α β γ : Type} (v : View α) (w : View β) (u : View γ) (s : α → β → γ → Option AV) : List AV → Option AV
  | [a, b, c] => (v.dec a).bind fun x => (w.dec b).bind fun y => (u.dec c).bind fun z => s x y z
  | _ => none

section
variable {P : Program} {F : Nat → Option FI} {I : Nat → Option (List AV → AH → Rs)} {T : TT} (hT : TAgree P T) (hmix : P.follows .mixedOrders = true) (hF : FAgree P F) (hI : IAgree P I)
include hT hmix hF hI
theorem agree1 {α : Type} {v : View α} {s : α → Option AV} {f : Nat} {fi : FI} (hfY : Nat.beq f YLD = false) (hFf : F f = some fi)
    (hg : ∀ x r, s x = some r → ∃ n k h1 v1 v0, call F I T n f [v.enc x] e0 = some (v1, h1) ∧ frzF false k h1 v1 = some v0 ∧ Wk v0 r) : IAgree P (addI I f (pureG (G1 v s))) := by
  refine pure_agree hT hmix hF hI hfY fi hFf fun args r hr _ => ?_
  unfold G1 at hr
  split at hr
  · rename_i a
    simp only [Option.bind_eq_some_iff] at hr
    obtain ⟨x, hx, hs⟩ := hr
    obtain ⟨n, k, h1, v1, v0, hc, hfr, hw⟩ := hg x r hs
    exact ⟨_, n, k, h1, v1, v0, WkL.cons (v.law _ _ hx) WkL.nil, hc, hfr, hw⟩
  · cases hr
theorem agree2 {α β : Type} {v : View α} {w : View β} {s : α → β → Option AV} {f : Nat} {fi : FI} (hfY : Nat.beq f YLD = false) (hFf : F f = some fi)
    (hg : ∀ x y r, s x y = some r → ∃ n k h1 v1 v0, call F I T n f [v.enc x, w.enc y] e0 = some (v1, h1) ∧ frzF false k h1 v1 = some v0 ∧ Wk v0 r) : IAgree P (addI I f (pureG (G2 v w s))) := by
  refine pure_agree hT hmix hF hI hfY fi hFf fun args r hr _ => ?_
  unfold G2 at hr
  split at hr
  · rename_i a b
    simp only [Option.bind_eq_some_iff] at hr
    obtain ⟨x, hx, y, hy, hs⟩ := hr
    obtain ⟨n, k, h1, v1, v0, hc, hfr, hw⟩ := hg x y r hs
    exact ⟨_, n, k, h1, v1, v0, WkL.cons (v.law _ _ hx) (WkL.cons (w.law _ _ hy) WkL.nil), hc, hfr, hw⟩
  · cases hr
theorem agree3 {α β γ : Type} {v : View α} {w : View β} {u : View γ} {s : α → β → γ → Option AV} {f : Nat} {fi : FI} (hfY : Nat.beq f YLD = false) (hFf : F f = some fi)
    (hg : ∀ x y z r, s x y z = some r → ∃ n k h1 v1 v0, call F I T n f [v.enc x, w.enc y, u.enc z] e0 = some (v1, h1) ∧ frzF false k h1 v1 = some v0 ∧ Wk v0 r) : IAgree P (addI I f (pureG (G3 v w u s))) := by
  refine pure_agree hT hmix hF hI hfY fi hFf fun args r hr _ => ?_
  unfold G3 at hr
  split at hr
  · rename_i a b c
    simp only [Option.bind_eq_some_iff] at hr
    obtain ⟨x, hx, y, hy, z, hz, hs⟩ := hr
    obtain ⟨n, k, h1, v1, v0, hc, hfr, hw⟩ := hg x y z r hs
    exact ⟨_, n, k, h1, v1, v0, WkL.cons (v.law _ _ hx) (WkL.cons (w.law _ _ hy) (WkL.cons (u.law _ _ hz) WkL.nil)), hc, hfr, hw⟩
  · cases hr
end

theorem pureG_flat {g : List AV → Option AV} {args : List AV} {h : AH} {v : AV} (hf : flatL args = true) (hg : g args = some v) : pureG g args h = some (v, h) := by
  simp [pureG, hf, hg]

theorem fin {F : Nat → Option FI} {I : Nat → Option (List AV → AH → Rs)} {T : TT} {n f : Nat} {args : List AV} {r : AV} (hc : ∃ h', call F I T n f args e0 = some (r, h')) (hf : ∀ h, frzF false 3 h r = some r) :
    ∃ n k h1 v1 v0, call F I T n f args e0 = some (v1, h1) ∧ frzF false k h1 v1 = some v0 ∧ Wk v0 r := by
  obtain ⟨h', hc⟩ := hc
  exact ⟨n, 3, h', r, r, hc, hf h', Wk.refl r⟩

theorem ok_of {a b : AV} {h : AH} (e : a = b) : ∃ h' : AH, (some (a, h) : Rs) = some (b, h') := ⟨h, by rw [e]⟩
theorem wrap_i64 {x : Int} (h1 : -9223372036854775808 ≤ x) (h2 : x < 9223372036854775808) : IntKind.i64.wrap x = x := by
  simp only [IntKind.wrap, IntKind.bits, IntKind.signed]
  simp
  omega
theorem wrap_u8 {x : Int} (h1 : 0 ≤ x) (h2 : x < 256) : IntKind.u8.wrap x = x := by
  simp only [IntKind.wrap, IntKind.bits, IntKind.signed]
  simp
  omega
theorem get_map {α : Type} {f : α → AV} {l : List α} {i : Nat} {x : α} (h : l[i]? = some x) : (l.map f)[i]? = some (f x) := by simp [h]
theorem drop_map_0 {α : Type} {f : α → AV} {l : List α} {i : Nat} {x : α} (h : l[i]? = some x) : (List.drop (i * 1) (l.map f))[0]? = some (f x) := by simp [h]
theorem toNat_cast (i : Nat) : ((i : Nat) : Int).toNat = i := rfl
theorem cast_nonneg (i : Nat) : (0 ≤ ((i : Nat) : Int)) = True := by simp
theorem drop_flat_0 {l : List AV} {i : Nat} {x : AV} (h : l[i]? = some x) : (List.drop (i * 1) l)[0]? = some x := by simp [h]

/-- The place of the first, or -1. -/
def idxAt {α : Type} (p : α → Bool) : Nat → List α → Int
  | _, [] => -1
  | i, x :: xs => if p x = true then (i : Int) else idxAt p (i + 1) xs
theorem idxAt_nonneg {α : Type} (p : α → Bool) : ∀ (l : List α) (i : Nat), (0 ≤ idxAt p i l) = (l.any p = true)
  | [], i => by simp [idxAt]
  | x :: xs, i => by
    have ih := idxAt_nonneg p xs (i + 1)
    by_cases hp : p x = true
    · simp [idxAt, hp]
    · simp only [idxAt, if_neg hp, ih, List.any_cons]; simp [hp]
theorem drop_cons {α : Type} {l : List α} {i : Nat} (h : i < l.length) : l.drop i = l[i] :: l.drop (i + 1) := List.drop_eq_getElem_cons h
theorem drop_end {α : Type} {l : List α} {i : Nat} (h : ¬ i < l.length) : l.drop i = [] := List.drop_eq_nil_iff.2 (by omega)

theorem oc_nils : ofConst (.slice none 0 0) = .nils := (rfl)
theorem oc_nilp : ofConst (.pointer none) = .nilp := (rfl)
theorem oc_nilf : ofConst .nilFunc = .nilf := (rfl)
theorem oc_nilm : ofConst (.map none) = .nilm := (rfl)

/-- A row that grows: nil, or a block of the call's own. -/
def Row (sz : Nat) (h : AH) (v : AV) (n : Nat) (cs : List AV) : Prop :=
  (v = .nils ∧ n = 0 ∧ cs = []) ∨ (∃ b, v = .sl b 0 n n sz false ∧ 0 < n ∧ cs.length = n * sz ∧ b < h.next ∧ h.get b = some (.cells cs .own))
theorem Row.nil (sz : Nat) (h : AH) : Row sz h .nils 0 [] := .inl ⟨rfl, rfl, rfl⟩

/-- The block of a row. -/
def offRow (v : AV) (c : Nat) : Prop := ∀ b o l k z x, v = .sl b o l k z x → c ≠ b

theorem Row.app {T : TT} {h : AH} {t xt el : Nat} {ti te : TI} {v x : AV} {n m sz : Nat} {cs new : List AV} (ht : T t = some ti) (hd : ti.desc = .slice el) (he : T el = some te) (hx : isSrc T xt = true) (hz : te.size = sz) (hb : 0 < te.bytes)
    (ho : Row sz h v n cs) (hs : aSource te.size x h = some (m, new)) (hm : 0 < m) (hl : new.length = m * sz) (hone : new.all AV.one = true) (hsm : (n + m) * te.bytes < maxBytes) :
    ∃ b h2, aAppend T t xt v x h = some (.sl b 0 (n + m) (n + m) sz false, h2) ∧ Row sz h2 (.sl b 0 (n + m) (n + m) sz false) (n + m) (cs ++ new) ∧ h.next ≤ h2.next ∧ h.next ≤ b ∧ (∀ c, c < h.next → offRow v c → h2.get c = h.get c) := by
  rcases ho with ⟨rfl, rfl, rfl⟩ | ⟨b, rfl, hn, hcl, hbn, hg⟩
  · have := app_nils (h := h) ht hd he hx hs hb (by omega) (by simpa using hsm)
    rw [hz] at this
    refine ⟨h.next, h.alloc (.cells new .own), by simpa using this, .inr ⟨h.next, rfl, by omega, by simpa using hl, by simp, by rw [AH.get_alloc, if_pos rfl]; simp⟩, by simp, Nat.le_refl _, fun c hc _ => ?_⟩
    rw [AH.get_alloc, if_neg (by omega)]
  · have := app_sl (h := h) (n := m) (len := n) (o := 0) ht hd he hx hs hb hz hg (by omega) (by omega) hsm hone
    have hcs : List.take (n * sz) (List.drop 0 cs) = cs := by rw [List.drop_zero, List.take_of_length_le (by omega)]
    rw [hcs] at this
    refine ⟨h.next, _, this, .inr ⟨h.next, rfl, by omega, by rw [List.length_append, hcl, hl, Nat.add_mul], by simp, ?_⟩, by simp, Nat.le_refl _, fun c hc hoff => ?_⟩
    · rw [AH.get_alloc, if_pos (by simp)]
    · rw [AH.get_alloc, if_neg (by simp; omega), AH.get_put, if_neg (hoff _ _ _ _ _ _ rfl)]

theorem Row.keep {sz : Nat} {h h2 : AH} {v : AV} {n : Nat} {cs : List AV} (ho : Row sz h v n cs) (hn : h.next ≤ h2.next) (hk : ∀ b, v = .sl b 0 n n sz false → h2.get b = h.get b) : Row sz h2 v n cs := by
  rcases ho with h | ⟨b, rfl, h1, h2', h3, h4⟩
  · exact .inl h
  · exact .inr ⟨b, rfl, h1, h2', by omega, by rw [hk b rfl]; exact h4⟩
theorem Row.alloc {sz : Nat} {h : AH} {v : AV} {n : Nat} {cs : List AV} (ho : Row sz h v n cs) (x : AB) : Row sz (h.alloc x) v n cs := by
  rcases ho with h | ⟨b, rfl, h1, h2', h3, h4⟩
  · exact .inl h
  · exact .inr ⟨b, rfl, h1, h2', by simp; omega, by rw [AH.get_alloc, if_neg (by omega)]; exact h4⟩
/-- What such a row reads as at the end. -/
theorem Row.frz {al : Bool} {sz : Nat} {h : AH} {v : AV} {n : Nat} {cs cs' : List AV} (ho : Row sz h v n cs) (k : Nat) (hf : frzMap (frzF al k h) cs = some cs') (hl : cs'.length = n * sz) : ∃ v0, frzF al (k + 1) h v = some v0 ∧ Wk v0 (.lst false sz n cs') := by
  rcases ho with ⟨rfl, rfl, rfl⟩ | ⟨b, rfl, h1, h2', h3, h4⟩
  · simp only [frzMap, Option.some.injEq] at hf
    subst hf
    exact ⟨.nils, by simp [frzF, AV.flat], Wk.nils _ _⟩
  · have h5 : List.take (n * sz) (List.drop 0 cs) = cs := by rw [List.drop_zero, List.take_of_length_le (by omega)]
    refine ⟨.lst false sz n cs', ?_, Wk.refl _⟩
    simp only [frzF, h4, Bool.or_true, h5, hf]
    rw [if_pos (by omega)]
    simp
theorem frzF_flatV {al : Bool} {k : Nat} {h : AH} {v : AV} (hs : (match v with | .bool _ | .int _ _ | .str _ | .nilp | .nils | .nilm | .nilf | .lst .. | .fp _ => true | _ => false) = true) (hf : v.flat = true) : frzF al (k + 1) h v = some v := by
  cases v <;> simp at hs <;> simp [frzF, hf]
theorem frzMap_map {α : Type} {al : Bool} {k : Nat} {h : AH} {f : α → AV} {l : List α} (hs : ∀ x, frzF al k h (f x) = some (f x)) : frzMap (frzF al k h) (l.map f) = some (l.map f) :=
  frzMap_same fun a ha => by
    obtain ⟨x, _, rfl⟩ := List.mem_map.1 ha
    exact hs x
theorem ofBytes_len (l : List UInt8) : (ofBytes l).length = l.length := by simp [ofBytes]
theorem ofBytes_one (l : List UInt8) : (ofBytes l).all AV.one = true := by simp [ofBytes, AV.one]
theorem ofBytes_app (a b : List UInt8) : ofBytes a ++ ofBytes b = ofBytes (a ++ b) := by simp [ofBytes]
theorem frz_bytes {al : Bool} {k : Nat} {h : AH} (l : List UInt8) : frzMap (frzF al (k + 1) h) (ofBytes l) = some (ofBytes l) :=
  frzMap_map (f := fun c : UInt8 => AV.int .u8 c.toNat) fun _ => by simp [frzF, AV.flat]
theorem flat_bytes (l : List UInt8) : flatL (ofBytes l) = true := flatL_map (g := fun c : UInt8 => AV.int .u8 c.toNat) (fun _ => rfl) l
theorem Row.back {h : AH} {v : AV} {n : Nat} {l : List UInt8} {T : TT} {s d el : Nat} {ts td te : TI} (ho : Row 1 h v n (ofBytes l)) (hn : n = l.length) (hs : T s = some ts) (hd : T d = some td) (he : td.desc = .string) (hf : ts.desc = .slice el) (ht : T el = some te)
    (hu : te.desc = .int .u8) (hz : te.size = 1) : aConv T s d v h = some (.str l, h) := by
  subst hn
  rcases ho with ⟨rfl, h1, h2⟩ | ⟨b, rfl, h1, h2', h3, h4⟩
  · have : l = [] := List.length_eq_zero_iff.1 h1
    subst this
    exact conv_nils hs hd he hf ht hu hz
  · rw [conv_backS hs hd he hf ht hu hz]
    have : h.loadn b 0 l.length = some (ofBytes l) := by
      simp only [AH.loadn, h4]
      rw [if_pos (by rw [ofBytes_len]; omega), List.drop_zero, List.take_of_length_le (by rw [ofBytes_len]; omega)]
    rw [this]
    simp [bytesOf_ofBytes]

theorem pureG_view {g : List AV → Option AV} {args bs : List AV} {h : AH} {v : AV} (hf : flatL args = false) (hv : frzMap (frzF true 9 h) args = some bs) (hg : g bs = some v) (hs : v.scal = true) : pureG g args h = some (v, h) := by
  simp [pureG, hf, hv, hg, hs]
theorem allM_enc {α : Type} {v : View α} (h : ∀ x, v.dec (v.enc x) = some x) (l : List α) : allM v.dec (l.map v.enc) = some l := allM_map h l
theorem vList_dec {α : Type} {v : View α} (h : ∀ x, v.dec (v.enc x) = some x) (ex : Bool) (l : List α) : (vList v).dec (.lst ex 1 l.length (l.map v.enc)) = some l := by
  show (asLst 1 (.lst ex 1 l.length (l.map v.enc))).bind (allM v.dec) = some l
  rw [asLst_lst (by simp)]
  exact allM_enc h l
theorem flat_map {α : Type} {f : α → AV} (h : ∀ x, (f x).flat = true) (ex : Bool) (sz n : Nat) (l : List α) : (AV.lst ex sz n (l.map f)).flat = true := by
  simp only [AV.flat]; exact flatL_map h l
/-- The front of a list. -/
theorem sl_front {T : TT} {t el : Nat} {ti te : TI} {α : Type} {f : α → AV} {l : List α} {ex : Bool} {i : Nat} (ht : T t = some ti) (hd : ti.desc = .slice el) (he : T el = some te) (hs : te.size = 1) (hi : i ≤ l.length) :
    aSlice T t (.lst ex 1 l.length (l.map f)) none (some (.int .i64 (i : Nat))) none = some (.lst (ex && Nat.beq i l.length) 1 (l.take i).length ((l.take i).map f)) := by
  rw [sl_lst ht hd he hs (u := i) (l := 0) (by simp [bnd]) (by simp [bnd]) (Nat.zero_le _) hi]
  simp [Nat.min_eq_left hi]

theorem take_snoc {α : Type} {l : List α} {i : Nat} (h : i < l.length) : l.take (i + 1) = l.take i ++ [l[i]] := by
  rw [List.take_add_one, List.getElem?_eq_getElem h]; rfl
theorem ofBytes_snoc (l : List UInt8) (c : UInt8) : ofBytes (l ++ [c]) = ofBytes l ++ [.int .u8 (c.toNat : Nat)] := by simp [ofBytes]
theorem take_end {α : Type} {l : List α} {i : Nat} (h : i = l.length) : l.take i = l := List.take_of_length_le (by omega)

theorem frz_sl {k : Nat} {h : AH} {b len cap sz : Nat} {ex : Bool} {cs cs' : List AV} {kd : BK} (hb : h.get b = some (.cells cs kd)) (hl : cs.length = len * sz) (hf : frzMap (frzF true k h) cs = some cs') :
    frzF true (k + 1) h (.sl b 0 len cap sz ex) = some (.lst (ex && Nat.beq cap len) sz len cs') := by
  have h1 : List.take (len * sz) (List.drop 0 cs) = cs := by rw [List.drop_zero, List.take_of_length_le (by omega)]
  simp only [frzF, hb, Bool.true_or, h1, hf]
  rw [if_pos (by omega)]
  rfl
theorem frzMap_cons {f : AV → Option AV} {a b : AV} {l m : List AV} (h1 : f a = some b) (h2 : frzMap f l = some m) : frzMap f (a :: l) = some (b :: m) := by simp [frzMap, h1, h2]
theorem frzMap_nil {f : AV → Option AV} : frzMap f [] = some [] := rfl
end Go.AM.Sx
