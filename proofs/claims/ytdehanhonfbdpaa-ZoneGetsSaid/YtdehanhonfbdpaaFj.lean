/- What is read of bytes: the reference's way, and that both ways read the same. Own work. -/
import Derived.Test.YtdehanhonfbdpaaFi
namespace Go.AM.X
open Go Go.AM Go.Proofs Go.AM.Sx
set_option maxHeartbeats 400000
set_option linter.unusedSimpArgs false
set_option linter.unusedVariables false
/-- Two steps tell the same. -/
def SR {α : Type} (f g : Int → Int → α × Int × Int) : Prop :=
  ∀ p q e, (e = 0 → p = q) → (f p e).1 = (g q e).1 ∧ (f p e).2.2 = (g q e).2.2 ∧ ((f p e).2.2 = 0 → (f p e).2.1 = (g q e).2.1)
theorem gl_rel {α : Type} {f g : Int → Int → α × Int × Int} (h : SR f g) : ∀ (k : Nat) (p q e : Int) (o : List α), (e = 0 → p = q) →
    (gl f k p e o).1 = (gl g k q e o).1 ∧ (gl f k p e o).2.2 = (gl g k q e o).2.2 ∧ ((gl f k p e o).2.2 = 0 → (gl f k p e o).2.1 = (gl g k q e o).2.1)
  | 0, p, q, e, o, hp => ⟨rfl, rfl, fun he => hp he⟩
  | k + 1, p, q, e, o, hp => by
    by_cases he : e = 0
    · obtain ⟨h1, h2, h3⟩ := h p q e hp
      simp only [gl, if_pos he, ← h1, ← h2]
      exact gl_rel h k _ _ _ _ h3
    · simp only [gl, if_neg he]
      exact ⟨trivial, trivial, fun h0 => absurd h0 he⟩
theorem getS_err {b : List UInt8} {p n : Int} (h : ¬ (getS b p n).2.2 = 0) : (getS b p n).1 = 0 := by
  unfold getS at h ⊢
  split
  · split
    · rfl
    · rename_i h1 h2; rw [if_pos h1, if_neg h2] at h; exact absurd rfl h
  · rfl
theorem textS_err {b : List UInt8} {p : Int} (h : ¬ (textS b p).2.2 = 0) : (textS b p).1 = [] := by
  unfold textS at h ⊢
  split
  · rename_i h1
    rw [if_pos h1] at h
    split
    · rfl
    · rename_i c hc
      rw [hc] at h
      simp only at h ⊢
      split
      · rfl
      · split
        · rfl
        · rename_i h2 h3; rw [if_neg h2, if_neg h3] at h; exact absurd rfl h
  · rfl
theorem net_rel (b : List UInt8) : SR (netS b) (rnetS b) := by
  intro p q e hp
  unfold netS rnetS numS chkS
  by_cases he : e = 0
  · have := hp he
    subst this
    subst he
    by_cases h1 : (getS b p 2).2.2 = 0
    · simp [h1]
    · simp [h1, getS_err h1]
  · simp [he]
theorem zone_rel (b : List UInt8) : SR (zoneS b) (rzoneS b) := by
  intro p q e hp
  unfold zoneS rzoneS rtextS chkS
  by_cases he : e = 0
  · have := hp he
    subst this
    subst he
    by_cases h1 : (textS b p).2.2 = 0
    · simp [h1]
    · simp [h1, textS_err h1]
  · simp [he]
/-- One step behind the other. -/
def two {α β : Type} (f : Int → Int → α × Int × Int) (g : Int → Int → β × Int × Int) (p e : Int) : (α × β) × Int × Int :=
  (((f p e).1, (g (f p e).2.1 (f p e).2.2).1), (g (f p e).2.1 (f p e).2.2).2.1, (g (f p e).2.1 (f p e).2.2).2.2)
theorem two_rel {α β : Type} {f f' : Int → Int → α × Int × Int} {g g' : Int → Int → β × Int × Int} (hf : SR f f') (hg : SR g g') : SR (two f g) (two f' g') := by
  intro p q e hp
  obtain ⟨h1, h2, h3⟩ := hf p q e hp
  obtain ⟨k1, k2, k3⟩ := hg (f p e).2.1 (f' q e).2.1 (f p e).2.2 h3
  simp only [two, ← h1, ← h2]
  exact ⟨by rw [k1], k2, k3⟩
/-- Reading, the reference's way. -/
def hdr (c : UInt8) (b : List UInt8) : Int × Int × Int :=
  let s := numS 1 b 0 0
  let t := numS 1 b s.2.1 (chkS (decide (s.1 = ((c.toNat : Nat) : Int))) s.2.2)
  (t.1, t.2.1, chkS (decide (1 ≤ t.1) && decide (t.1 ≤ 100)) t.2.2)
def refQ (c : UInt8) {α : Type} (f : List UInt8 → Int → Int → α × Int × Int) (b : List UInt8) : List α × Int :=
  let s := hdr c b
  let r := gl (f b) s.1.toNat s.2.1 s.2.2 []
  let e := chkS (decide (r.2.1 = b.length)) r.2.2
  if e = 0 then (r.1, 0) else ([], e)
theorem hdr_eq (c : UInt8) (b : List UInt8) : (hdr c b).2.2 = (beginS c b).2.2 ∧ ((beginS c b).2.2 = 0 → hdr c b = beginS c b) := by
  have hc : ∀ x : UInt8, (((x.toNat : Nat) : Int) = ((c.toNat : Nat) : Int)) = (x = c) := fun x => propext ⟨fun h => UInt8.toNat_inj.1 (by omega), fun h => by rw [h]⟩
  rcases b with _ | ⟨x, t⟩
  · simp [hdr, beginS, numS, getS, isWidth, chkS]
  · have g1 : getS (x :: t) 0 1 = (((x.toNat : Nat) : Int), 1, 0) := getS_1 (b := x :: t) (q := 0) (by simp)
    by_cases hx : x = c
    · rcases t with _ | ⟨y, t⟩
      · have g2 : getS [x] 1 1 = (0, 0, 6) := getS_1e (b := [x]) (q := 1) rfl
        subst hx
        simp [hdr, beginS, numS, g1, g2, chkS]
      · have g2 : getS (x :: y :: t) 1 1 = (((y.toNat : Nat) : Int), 2, 0) := getS_1 (b := x :: y :: t) (q := 1) (by simp)
        subst hx
        simp only [hdr, beginS, numS, g1, g2, chkS, if_true, decide_true, Bool.true_eq_false, and_false, if_false]
        by_cases h1 : 1 ≤ y.toNat
        · by_cases h2 : y.toNat ≤ 100
          · simp [h1, h2, show (1 : Int) ≤ ((y.toNat : Nat) : Int) by omega, show ((y.toNat : Nat) : Int) ≤ 100 by omega]
          · simp [h2, show ¬ ((y.toNat : Nat) : Int) ≤ 100 by omega]
        · simp [h1, show ¬ (1 : Int) ≤ ((y.toNat : Nat) : Int) by omega]
    · have hcx : ¬ ((x.toNat : Nat) : Int) = ((c.toNat : Nat) : Int) := by rw [hc]; exact hx
      rcases t with _ | ⟨y, t⟩ <;> simp [hdr, beginS, numS, g1, chkS, hx, hcx]
theorem getQ_eq {α : Type} {f g : List UInt8 → Int → Int → α × Int × Int} (c : UInt8) (b : List UInt8) (h : SR (f b) (g b)) : getQ c f b = refQ c g b := by
  obtain ⟨h1, h2⟩ := hdr_eq c b
  unfold getQ refQ
  by_cases he : (beginS c b).2.2 = 0
  · rw [h2 he]
    obtain ⟨g1, g2, g3⟩ := gl_rel h (beginS c b).1.toNat (beginS c b).2.1 (beginS c b).2.1 (beginS c b).2.2 [] (fun _ => rfl)
    have : endS b (gl (f b) (beginS c b).1.toNat (beginS c b).2.1 (beginS c b).2.2 []).2.1 (gl (f b) (beginS c b).1.toNat (beginS c b).2.1 (beginS c b).2.2 []).2.2
        = chkS (decide ((gl (g b) (beginS c b).1.toNat (beginS c b).2.1 (beginS c b).2.2 []).2.1 = b.length)) (gl (g b) (beginS c b).1.toNat (beginS c b).2.1 (beginS c b).2.2 []).2.2 := by
      unfold endS chkS
      rw [← g2]
      by_cases h0 : (gl (f b) (beginS c b).1.toNat (beginS c b).2.1 (beginS c b).2.2 []).2.2 = 0
      · rw [g3 h0]; simp [h0]
      · simp [h0]
    simp only [this, g1]
  · have he' : ¬ (hdr c b).2.2 = 0 := by rw [h1]; exact he
    simp only [gl_err _ _ _ _ _ he, gl_err _ _ _ _ _ he', endS, chkS, he, he', h1, false_and, if_false]
end Go.AM.X
