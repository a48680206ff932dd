/- Regions whose order is open and in which blocks may be made at any time: every order comes to what the text's order comes to. Own work. -/
import Derived.Test.YtghkgkjbdfnimaaAmDraw3
namespace Go.AM
open Go Go.RowKit
set_option linter.unusedVariables false
set_option linter.unusedSimpArgs false
set_option linter.unusedSectionVars false

/-! ### Heaps -/
theorem BR.grow {B B2 : Nat → Prop} {μ : Img} {H : Array Obj} {b : Nat} {x : AB} (hB : ∀ y, μ b = some y → B2 y.1 → B y.1) (h : BR B μ H b x) : BR B2 μ H b x := by
  cases x with
  | dead => trivial
  | cells cs k =>
    obtain ⟨cb, δ, N, arr, el, fz, h1, h2, h3, h4, h5⟩ := h
    exact ⟨cb, δ, N, arr, el, fz, h1, h2, h3, h4, fun hk => ⟨fun hb => (h5 hk).1 (hB _ h1 hb), (h5 hk).2⟩⟩
  | dfr => obtain ⟨cb, δ, N, h1, h2, h3⟩ := h; exact ⟨cb, δ, N, h1, h2, fun hb => h3 (hB _ h1 hb)⟩
  | iter s pos => obtain ⟨cb, δ, N, h1, h2, h3, h4⟩ := h; exact ⟨cb, δ, N, h1, h2, fun hb => h3 (hB _ h1 hb), h4⟩
  | loop e ps asg bdy st => obtain ⟨cb, δ, N, r, h1, h2, h3, h4⟩ := h; exact ⟨cb, δ, N, r, h1, h2, fun hb => h3 (hB _ h1 hb), h4⟩
  | map es => obtain ⟨cb, δ, N, ents, clock, h1, h2, h3, h4⟩ := h; exact ⟨cb, δ, N, ents, clock, h1, h2, fun hb => h3 (hB _ h1 hb), h4⟩

/-- A live block is named, and lies where nothing is kept. -/
theorem BR.live {B : Nat → Prop} {μ : Img} {H : Array Obj} {b : Nat} {x : AB} (h : BR B μ H b x) (hl : x.live = true) : ∃ y, μ b = some y ∧ ¬ B y.1 := by
  cases x with
  | dead => simp [AB.live] at hl
  | cells cs k =>
    obtain ⟨cb, δ, N, arr, el, fz, h1, h2, h3, h4, h5⟩ := h
    exact ⟨_, h1, (h5 (fun e => h4 e)).1⟩
  | dfr => obtain ⟨cb, δ, N, h1, h2, h3⟩ := h; exact ⟨_, h1, h3⟩
  | iter s pos => obtain ⟨cb, δ, N, h1, h2, h3, h4⟩ := h; exact ⟨_, h1, h3⟩
  | loop e ps asg bdy st => obtain ⟨cb, δ, N, r, h1, h2, h3, h4⟩ := h; exact ⟨_, h1, h3⟩
  | map es => obtain ⟨cb, δ, N, ents, clock, h1, h2, h3, h4⟩ := h; exact ⟨_, h1, h3⟩

theorem Img.sub_same (μ : Img) (old res : Nat → Prop) : μ.sub ⟨μ.m, μ.fz, old, res⟩ := ⟨fun _ _ h => h, fun _ _ h => h⟩

/-- What is old, and what is reserved, may be said anew. -/
theorem HR.setOR {P : Program} {B : BS P} {μ : Img} {h : AH} {H : Array Obj} (hr : HR B μ h H) {old res : Nat → Prop} (ho : ∀ k, old k → k < H.size) (hs : ∀ b, res b → μ b = none ∧ b < h.next) :
    HR B ⟨μ.m, μ.fz, old, res⟩ h H :=
  ⟨hr.dom, fun b x hb => ⟨(hr.blk b x hb).1, BR.keepS (Img.sub_same μ old res) (fun _ _ _ _ => rfl) (hr.blk b x hb).2⟩, hr.inj, hr.base, hr.frz, ho, hs, hr.tab⟩

/-- A block that was kept is laid down. -/
theorem HR.lay {P : Program} {B B' : BS P} {μ : Img} {h : AH} {H : Array Obj} (hr : HR B' μ h H) {id r : Nat} {arr : Array Value} {el : TypeId} {cs : List AV} (hm : μ id = some (r, 0, arr.size)) (hc : H[r]? = some (.cells arr el (0, 0)))
    (hcr : CellsR μ cs arr 0) (hr' : B' r) (hnr : ¬ B r) (hB : ∀ k, B k → B' k) (hfz : μ.fz r = none) : HR B μ (h.put id (.cells cs .own)) H := by
  have hlive : ∀ b x, h.get b = some x → x.live = true → ∀ y, μ b = some y → y.1 ≠ r := by
    intro b x hb hl y hy e
    obtain ⟨y', h1, h2⟩ := (hr.blk b x hb).2.live hl
    rw [hy] at h1; cases h1
    exact h2 (by rw [e]; exact hr')
  refine ⟨hr.dom, fun b x hb => ?_, fun b b' x x' y y' hne h1 h2 hl hl' hy hy' => ?_, fun k hk => hr.base k (hB k hk), fun cb arr' hf => ⟨(hr.frz cb arr' hf).1, fun b x y hb hl hy => ?_⟩, hr.old, hr.res, hr.tab⟩
  · rw [AH.get_put] at hb
    split at hb
    · rename_i e
      cases hb; subst e
      exact ⟨(hr.dom _ _ hm).1, r, 0, arr.size, arr, el, (0, 0), hm, hc, hcr, (fun h => by cases h), fun _ => ⟨hnr, rfl, fun _ _ h => by omega, fun _ => rfl⟩⟩
    · exact ⟨(hr.blk b x hb).1, (hr.blk b x hb).2.grow fun y _ hb => hB _ hb⟩
  · rw [AH.get_put] at h1 h2
    by_cases e : b = id
    · rw [if_neg (fun e' => hne (e.trans e'.symm))] at h2
      subst e
      rw [hm] at hy; cases hy
      exact fun e => hlive b' x' h2 hl' y' hy' e.symm
    · rw [if_neg e] at h1
      by_cases e' : b' = id
      · subst e'
        rw [hm] at hy'; cases hy'
        exact hlive b x h1 hl y hy
      · rw [if_neg e'] at h2
        exact hr.inj b b' x x' y y' hne h1 h2 hl hl' hy hy'
  · rw [AH.get_put] at hb
    split at hb
    · rename_i e
      subst e
      rw [hm] at hy; cases hy
      intro e
      simp only at e
      rw [← e, hfz] at hf; cases hf
    · exact (hr.frz cb arr' hf).2 b x y hb hl hy

/-- A block that is made, and kept. -/
theorem HR.keepNew {P : Program} {B : BS P} {μ : Img} {h : AH} {H : Array Obj} (hr : HR B μ h H) {id sz : Nat} {o : Obj} (hid : id < h.next) (hm : μ id = none) {B2 : BS P} (hB2 : ∀ k, B2 k → B k ∨ k = H.size)
    {old res : Nat → Prop} (ho : ∀ k, old k → μ.old k ∨ k = H.size) (hs : ∀ b, res b → μ.res b ∧ b ≠ id) :
    HR B2 ⟨(μ.upd id (H.size, 0, sz)).m, μ.fz, old, res⟩ h (H.push o) := by
  have hsub : μ.sub ⟨(μ.upd id (H.size, 0, sz)).m, μ.fz, old, res⟩ := by
    refine ⟨fun b x hb => ?_, fun _ _ h => h⟩
    show (μ.upd id (H.size, 0, sz)) b = some x
    rw [Img.upd_at, if_neg (fun e => by rw [e, hm] at hb; cases hb)]; exact hb
  have hlive : ∀ b x, h.get b = some x → x.live = true → b ≠ id := by
    intro b x hb hl e
    obtain ⟨y, h1, _⟩ := (hr.blk b x hb).2.live hl
    rw [e, hm] at h1; cases h1
  have hup : ∀ b y, (μ.upd id (H.size, 0, sz)) b = some y → b ≠ id → μ b = some y := by
    intro b y hb hne
    rw [Img.upd_at, if_neg hne] at hb; exact hb
  refine ⟨fun b x hb => ?_, fun b x hb => ?_, fun b b' x x' y y' hne h1 h2 hl hl' hy hy' => ?_, fun k hk => ?_, fun cb arr hf => ?_, fun k hk => ?_, fun b hb => ?_, hr.tab⟩
  · by_cases e : b = id
    · subst e
      have : (μ.upd b (H.size, 0, sz)) b = some x := hb
      rw [Img.upd_at, if_pos rfl] at this
      cases this
      exact ⟨hid, by simp⟩
    · have := hr.dom b x (hup b x hb e)
      exact ⟨this.1, by simp; omega⟩
  · have h1 := hr.blk b x hb
    refine ⟨h1.1, ?_⟩
    have h2 : BR B2 μ H b x := h1.2.grow fun y hy hk => by
      rcases hB2 _ hk with hk | hk
      · exact hk
      · have := (hr.dom b y hy).2; omega
    refine h2.keepS hsub fun cb δ N hb => ?_
    have hlt := (hr.dom b _ hb).2
    exact (Array.getElem?_push_lt hlt).trans (by simp [hlt])
  · exact hr.inj b b' x x' y y' hne h1 h2 hl hl' (hup _ _ hy (hlive _ _ h1 hl)) (hup _ _ hy' (hlive _ _ h2 hl'))
  · rcases hB2 _ hk with hk | hk
    · have := hr.base k hk; simp; omega
    · simp; omega
  · have hlt := hr.frz_lt hf
    obtain ⟨⟨el, f, hc⟩, hn⟩ := hr.frz cb arr hf
    exact ⟨⟨el, f, by rw [Array.getElem?_push_lt hlt]; simpa [hlt] using hc⟩, fun b y z hb hl hz => hn b y z hb hl (hup _ _ hz (hlive _ _ hb hl))⟩
  · rcases ho k hk with hk | hk
    · have := hr.old k hk; simp; omega
    · simp; omega
  · obtain ⟨h1, h2⟩ := hs b hb
    obtain ⟨h3, h4⟩ := hr.res b h1
    refine ⟨?_, h4⟩
    show (μ.upd id (H.size, 0, sz)) b = none
    rw [Img.upd_at, if_neg h2]; exact h3

/-! ### Plain facts -/
structure PairOkF (T : TT) (all : Array Oper) (i j : Nat) (p o : Oper) : Prop where
  or : Reach (edgesAt all) j i ∨ (mayPass2 (clsF T p) (clsF T o) = true ∧ (∀ d, p.dst = some d → d ∉ names all o) ∧ (∀ d, o.dst = some d → d ∉ names all p))

theorem drawOkF_at {T : TT} {all : Array Oper} (h : drawOkF T all = true) {j : Nat} {o : Oper} (hj : all[j]? = some o) :
    ((isFree o || (match clsOf T o.op with | .alloc => false | _ => true)) = true ∧ (∀ e ∈ edges o, e < j)) ∧ ∀ i p, all[i]? = some p → i < j → PairOkF T all i j p o := by
  unfold drawOkF at h
  simp only [List.all_eq_true] at h
  have hjm : (o, j) ∈ all.toList.zipIdx := by
    rw [List.mem_zipIdx_iff_getElem?]; simpa using hj
  have h1 := h (o, j) hjm
  simp only [Bool.and_eq_true, List.all_eq_true] at h1
  refine ⟨⟨h1.1.1, fun e he => by simpa using h1.1.2 e he⟩, fun i p hi hij => ?_⟩
  have him : (p, i) ∈ all.toList.zipIdx := by
    rw [List.mem_zipIdx_iff_getElem?]; simpa using hi
  have h2 := h1.2 (p, i) him
  simp only [Bool.or_eq_true, Bool.not_eq_true', decide_eq_false_iff_not, Bool.and_eq_true] at h2
  rcases h2 with (h2 | h2) | ⟨⟨h2, h3⟩, h4⟩
  · exact absurd hij h2
  · exact ⟨.inl (clos_sound all all.toList [] ⟨[], by simp, rfl⟩ (by intro j i hb; simp at hb) j i h2)⟩
  · refine ⟨.inr ⟨h2, fun d hd => ?_, fun d hd => ?_⟩⟩
    · rw [hd] at h3; simpa using h3
    · rw [hd] at h4; simpa using h4

theorem drawOkF_edges {T : TT} {all : Array Oper} (h : drawOkF T all = true) {j : Nat} {o : Oper} (hj : all[j]? = some o) : ∀ e ∈ edges o, e < j := (drawOkF_at h hj).1.2

theorem mtAt_prop {T : TT} {all : Array Oper} {cl : List Nat} {a : Nat} : ∀ f j, j ≤ mtAt T all cl a f j ∧ mtAt T all cl a f j ≤ j + f ∧
    (mtAt T all cl a f j = j + f ∨ (isEff T all (mtAt T all cl a f j) = true ∧ (cl.getD (mtAt T all cl a f j) 0).testBit a = true))
  | 0, j => ⟨Nat.le_refl _, Nat.le_refl _, .inl rfl⟩
  | f + 1, j => by
    simp only [mtAt]
    split
    · rename_i h
      simp only [Bool.and_eq_true] at h
      exact ⟨Nat.le_refl _, by omega, .inr h⟩
    · obtain ⟨h1, h2, h3⟩ := mtAt_prop (T := T) (all := all) (cl := cl) (a := a) f (j + 1)
      refine ⟨by omega, by omega, ?_⟩
      rcases h3 with h3 | h3
      · exact .inl (by omega)
      · exact .inr h3

theorem mts_prop {T : TT} {all : Array Oper} {a : Nat} (ha : a < all.size) : a < (mts T all).getD a 0 ∧ (mts T all).getD a 0 ≤ all.size ∧
    ((mts T all).getD a 0 = all.size ∨ (isEff T all ((mts T all).getD a 0) = true ∧ Reach (edgesAt all) ((mts T all).getD a 0) a)) := by
  have : (mts T all).getD a 0 = mtAt T all (clos all.toList []) a (all.size - (a + 1)) (a + 1) := by
    unfold mts
    rw [List.getD_eq_getElem?_getD, List.getElem?_map, List.getElem?_range ha]; rfl
  rw [this]
  obtain ⟨h1, h2, h3⟩ := mtAt_prop (T := T) (all := all) (cl := clos all.toList []) (a := a) (all.size - (a + 1)) (a + 1)
  refine ⟨by omega, by omega, ?_⟩
  rcases h3 with h3 | ⟨h3, h4⟩
  · exact .inl (by omega)
  · exact .inr ⟨h3, clos_reach h4⟩

theorem loF_prop {T : TT} {all : Array Oper} {cl : List Nat} {i : Nat} : ∀ n, loF T all cl i n = 0 ∨ ∃ j, j < n ∧ loF T all cl i n = j + 1 ∧ isEff T all j = true ∧ (cl.getD i 0).testBit j = true
  | 0 => .inl rfl
  | n + 1 => by
    simp only [loF]
    split
    · rename_i h
      simp only [Bool.and_eq_true] at h
      exact .inr ⟨n, by omega, rfl, h.2, h.1⟩
    · rcases loF_prop (T := T) (all := all) (cl := cl) (i := i) n with h | ⟨j, h1, h2⟩
      · exact .inl h
      · exact .inr ⟨j, by omega, h2⟩
theorem hiF_prop {T : TT} {all : Array Oper} {cl : List Nat} {i : Nat} : ∀ f k, hiF T all cl i f k = k + f ∨ ∃ j, k ≤ j ∧ j < k + f ∧ hiF T all cl i f k = j ∧ isEff T all j = true ∧ (cl.getD j 0).testBit i = true
  | 0, k => .inl rfl
  | f + 1, k => by
    simp only [hiF]
    split
    · rename_i h
      simp only [Bool.and_eq_true] at h
      exact .inr ⟨k, by omega, by omega, rfl, h.2, h.1⟩
    · rcases hiF_prop (T := T) (all := all) (cl := cl) (i := i) f (k + 1) with h | ⟨j, h1, h2, h3⟩
      · exact .inl (by omega)
      · exact .inr ⟨j, by omega, by omega, h3⟩

theorem matz_congr {all : Array Oper} {n0 : Nat} {mt : List Nat} {ct ct' : Nat → List AV} {i : Nat} : ∀ (k : Nat) (h : AH), (∀ a, a < k → ct a = ct' a) → matz all n0 mt ct i k h = matz all n0 mt ct' i k h
  | 0, _, _ => rfl
  | k + 1, h, hc => by
    simp only [matz]
    rw [matz_congr k h (fun a ha => hc a (by omega)), hc k (by omega)]

theorem matz_next {all : Array Oper} {n0 : Nat} {mt : List Nat} {ct : Nat → List AV} {i : Nat} : ∀ (k : Nat) (h : AH), (matz all n0 mt ct i k h).next = h.next
  | 0, _ => rfl
  | k + 1, h => by
    simp only [matz]
    split
    · rw [AH.next_put]; exact matz_next k h
    · exact matz_next k h

theorem matz_none {all : Array Oper} {n0 : Nat} {mt : List Nat} {ct : Nat → List AV} {i : Nat} : ∀ (k : Nat) (h : AH), (∀ a, a < k → freeAt all a = true → mt.getD a 0 ≠ i) → matz all n0 mt ct i k h = h
  | 0, _, _ => rfl
  | k + 1, h, hc => by
    simp only [matz]
    split
    · rename_i hh
      simp only [Bool.and_eq_true] at hh
      exact absurd (Nat.eq_of_beq_eq_true hh.2) (hc k (by omega) hh.1)
    · exact matz_none k h (fun a ha => hc a (by omega))

/-! ### The run in the order of the text -/
structure TrF (C : Cf) (T : TT) (all : Array Oper) (n0 : Nat) (es : Nat → Env) (hs : Nat → AH) (ct : Nat → List AV) : Prop where
  step : ∀ (i : Nat) (o : Oper), all[i]? = some o → isFree o = false → ∃ v, stepV C T all o (es i) (matz all n0 (mts T all) ct i i (hs i)) = some (v, hs (i + 1)) ∧ es (i + 1) = (es i).put o.dst v
  free : ∀ (i : Nat) (o : Oper), all[i]? = some o → isFree o = true → ∃ v, mkOf T o (es i) (n0 + i) = some (v, ct i) ∧ hs (i + 1) = hs i ∧ es (i + 1) = (es i).put o.dst v
  soft : ∀ (i lo hi : Nat) (o : Oper), (i, lo, hi) ∈ softsF T all → all[i]? = some o → ∀ m, lo ≤ m → m ≤ hi → ∃ v h1 h2, stepV C T all o (es i) (hs i) = some (v, h1) ∧ stepV C T all o (es i) (hs m) = some (v, h2)

theorem opsF_ops {C : Cf} {T : TT} {all : Array Oper} {n0 : Nat} {mt : List Nat} {r : AV × AH} : ∀ (l : List Oper) (i : Nat) (e : Env) (h : AH) (ct0 : Nat → List AV) (tr : List (Env × AH)) (K : Env → AH → List (Env × AH) → Rs),
    opsF C T all n0 mt l i e h ct0 tr K = some r →
    ∃ (es : Nat → Env) (hs : Nat → AH) (ct : Nat → List AV), es i = e ∧ hs i = h ∧ (∀ a, a < i → ct a = ct0 a) ∧
      (∀ (j : Nat) (o : Oper), l[j]? = some o → isFree o = false → ∃ v, stepV C T all o (es (i + j)) (matz all n0 mt ct (i + j) (i + j) (hs (i + j))) = some (v, hs (i + j + 1)) ∧ es (i + j + 1) = (es (i + j)).put o.dst v) ∧
      (∀ (j : Nat) (o : Oper), l[j]? = some o → isFree o = true → ∃ v, mkOf T o (es (i + j)) (n0 + (i + j)) = some (v, ct (i + j)) ∧ hs (i + j + 1) = hs (i + j) ∧ es (i + j + 1) = (es (i + j)).put o.dst v) ∧
      K (es (i + l.length)) (matz all n0 mt ct (i + l.length) (i + l.length) (hs (i + l.length))) (tr ++ (List.range (l.length + 1)).map fun j => (es (i + j), hs (i + j))) = some r
  | [], i, e, h, ct0, tr, K, hr => ⟨fun _ => e, fun _ => h, ct0, rfl, rfl, fun _ _ => rfl, fun j o ho => by simp at ho, fun j o ho => by simp at ho, by simpa [opsF] using hr⟩
  | o :: l, i, e, h, ct0, tr, K, hr => by
    simp only [opsF] at hr
    have fin : ∀ (e' : Env) (h' : AH) (ct1 : Nat → List AV), opsF C T all n0 mt l (i + 1) e' h' ct1 (tr ++ [(e, h)]) K = some r → (∀ a, a < i → ct1 a = ct0 a) →
        (∀ (es : Nat → Env) (hs : Nat → AH) (ct : Nat → List AV), es i = e → hs i = h → es (i + 1) = e' → hs (i + 1) = h' → (∀ a, a < i + 1 → ct a = ct1 a) →
          (isFree o = false → ∃ v, stepV C T all o (es i) (matz all n0 mt ct i i (hs i)) = some (v, hs (i + 1)) ∧ es (i + 1) = (es i).put o.dst v) ∧
          (isFree o = true → ∃ v, mkOf T o (es i) (n0 + i) = some (v, ct i) ∧ hs (i + 1) = hs i ∧ es (i + 1) = (es i).put o.dst v)) →
        ∃ (es : Nat → Env) (hs : Nat → AH) (ct : Nat → List AV), es i = e ∧ hs i = h ∧ (∀ a, a < i → ct a = ct0 a) ∧
          (∀ (j : Nat) (o' : Oper), (o :: l)[j]? = some o' → isFree o' = false → ∃ v, stepV C T all o' (es (i + j)) (matz all n0 mt ct (i + j) (i + j) (hs (i + j))) = some (v, hs (i + j + 1)) ∧ es (i + j + 1) = (es (i + j)).put o'.dst v) ∧
          (∀ (j : Nat) (o' : Oper), (o :: l)[j]? = some o' → isFree o' = true → ∃ v, mkOf T o' (es (i + j)) (n0 + (i + j)) = some (v, ct (i + j)) ∧ hs (i + j + 1) = hs (i + j) ∧ es (i + j + 1) = (es (i + j)).put o'.dst v) ∧
          K (es (i + (o :: l).length)) (matz all n0 mt ct (i + (o :: l).length) (i + (o :: l).length) (hs (i + (o :: l).length))) (tr ++ (List.range ((o :: l).length + 1)).map fun j => (es (i + j), hs (i + j))) = some r := by
      intro e' h' ct1 hr hct hstep
      obtain ⟨es, hs, ct, g1, g2, g3, g4, g5, g6⟩ := opsF_ops l (i + 1) e' h' ct1 _ K hr
      obtain ⟨es', hes⟩ : ∃ es' : Nat → Env, es' = fun k => if k = i then e else es k := ⟨_, rfl⟩
      obtain ⟨hs', hhs⟩ : ∃ hs' : Nat → AH, hs' = fun k => if k = i then h else hs k := ⟨_, rfl⟩
      have hne : ∀ k, i + 1 ≤ k → es' k = es k := fun k hk => by rw [hes]; simp only; rw [if_neg (by omega)]
      have hne2 : ∀ k, i + 1 ≤ k → hs' k = hs k := fun k hk => by rw [hhs]; simp only; rw [if_neg (by omega)]
      have hat := hstep es' hs' ct (by rw [hes]; simp) (by rw [hhs]; simp) (by rw [hne _ (Nat.le_refl _)]; exact g1) (by rw [hne2 _ (Nat.le_refl _)]; exact g2) g3
      refine ⟨es', hs', ct, by rw [hes]; simp, by rw [hhs]; simp, fun a ha => (g3 a (by omega)).trans (hct a ha), ?_, ?_, ?_⟩
      · intro j o' ho hf
        cases j with
        | zero => simp at ho; subst ho; exact hat.1 hf
        | succ j =>
          have h1 := g4 j o' (by simpa using ho) hf
          have e1 : i + (j + 1) = i + 1 + j := by omega
          rw [e1, hne _ (by omega), hne _ (by omega), hne2 _ (by omega), hne2 _ (by omega)]
          exact h1
      · intro j o' ho hf
        cases j with
        | zero => simp at ho; subst ho; exact hat.2 hf
        | succ j =>
          have h1 := g5 j o' (by simpa using ho) hf
          have e1 : i + (j + 1) = i + 1 + j := by omega
          rw [e1, hne _ (by omega), hne _ (by omega), hne2 _ (by omega), hne2 _ (by omega)]
          exact h1
      · have e1 : i + (o :: l).length = i + 1 + l.length := by simp; omega
        rw [e1, hne _ (by omega), hne2 _ (by omega)]
        rw [List.append_assoc] at g6
        have e2 : ((List.range ((o :: l).length + 1)).map fun j => (es' (i + j), hs' (i + j))) = [(e, h)] ++ (List.range (l.length + 1)).map fun j => (es (i + 1 + j), hs (i + 1 + j)) := by
          rw [List.length_cons, List.range_succ_eq_map, List.map_cons, List.map_map]
          simp only [Nat.add_zero, List.singleton_append, List.cons.injEq, Prod.mk.injEq]
          refine ⟨⟨by rw [hes]; simp, by rw [hhs]; simp⟩, ?_⟩
          refine List.map_congr_left fun j _ => ?_
          have e3 : i + (j + 1) = i + 1 + j := by omega
          simp only [Function.comp_def, Nat.succ_eq_add_one, e3]
          rw [hne _ (by omega), hne2 _ (by omega)]
        rw [e2]; exact g6
    cases hf : isFree o with
    | true =>
      rw [hf] at hr
      try simp only at hr
      split at hr
      · rename_i v cs hmk
        refine fin _ _ _ hr (fun a ha => ?_) ?_
        · have : Nat.beq a i = false := by
            cases hb : Nat.beq a i with
            | false => rfl
            | true => have := Nat.eq_of_beq_eq_true hb; omega
          rw [this]
        · intro es hs ct g1 g2 g3 g4 g5
          refine ⟨fun h => (by rw [hf] at h; cases h), fun _ => ⟨v, ?_, by rw [g4, g2], by rw [g3, g1]⟩⟩
          have : ct i = cs := by rw [g5 i (by omega)]; simp
          rw [g1, this]; exact hmk
      · cases hr
    | false =>
      rw [hf] at hr
      try simp only at hr
      obtain ⟨v, h', hv, hK⟩ := run_inv hr
      refine fin _ _ _ hK (fun a ha => rfl) ?_
      intro es hs ct g1 g2 g3 g4 g5
      refine ⟨fun _ => ⟨v, ?_, by rw [g3, g1]⟩, fun h => (by rw [hf] at h; cases h)⟩
      unfold stepV
      rw [g1, g2, g4, matz_congr i h (fun a ha => g5 a (by omega))]
      exact hv

/-- The last of a set's that count, and one. -/
def hxP (p S : Nat → Bool) : Nat → Nat
  | 0 => 0
  | j + 1 => if S j = true ∧ p j = true then j + 1 else hxP p S j
theorem hxP_le {p S : Nat → Bool} : ∀ n, hxP p S n ≤ n
  | 0 => Nat.le_refl _
  | n + 1 => by
    simp only [hxP]; split
    · exact Nat.le_refl _
    · exact Nat.le_succ_of_le (hxP_le n)
theorem hxP_ge {p S : Nat → Bool} {j : Nat} (hS : S j = true) (hp : p j = true) : ∀ n, j < n → j < hxP p S n
  | 0, h => by omega
  | n + 1, h => by
    simp only [hxP]; split
    · exact h
    · rename_i hn
      by_cases e : j = n
      · subst e; exact absurd ⟨hS, hp⟩ hn
      · exact hxP_ge hS hp n (by omega)
theorem hxP_last {p S : Nat → Bool} : ∀ n, hxP p S n ≠ 0 → S (hxP p S n - 1) = true ∧ p (hxP p S n - 1) = true
  | 0, h => absurd rfl h
  | n + 1, h => by
    simp only [hxP] at h ⊢
    split
    · rename_i hn; simpa using hn
    · rename_i hn; rw [if_neg hn] at h; exact hxP_last n h
theorem hxP_congr {p S S' : Nat → Bool} : ∀ n, (∀ j, j < n → p j = true → S j = S' j) → hxP p S n = hxP p S' n
  | 0, _ => rfl
  | n + 1, h => by
    simp only [hxP]
    rw [hxP_congr n (fun j hj => h j (by omega))]
    by_cases hp : p n = true
    · rw [h n (by omega) hp]
    · rw [if_neg (fun x => hp x.2), if_neg (fun x => hp x.2)]
theorem hxP_eq {p S : Nat → Bool} {m : Nat} (hm : ∀ j, j < m → p j = true → S j = true) : ∀ n, m ≤ n → (∀ j, m ≤ j → j < n → p j = true → S j = false) → hxP p S n = hxP p (fun _ => true) m := by
  intro n
  induction n with
  | zero => intro h _; have : m = 0 := by omega
            subst this; rfl
  | succ n ih =>
    intro h hn
    by_cases e : m = n + 1
    · subst e; exact hxP_congr _ fun j hj hp => hm j hj hp
    · simp only [hxP]
      rw [if_neg, ih (by omega) fun j h1 h2 => hn j h1 (by omega)]
      rintro ⟨h1, h2⟩
      rw [hn n (by omega) (by omega) h2] at h1; cases h1

section
variable {C : Cf} {T : TT} {all : Array Oper} {n0 : Nat} {es : Nat → Env} {hs : Nat → AH} {ct : Nat → List AV} (tr : TrF C T all n0 es hs ct) (hok : drawOkF T all = true)

theorem eff_cls {i : Nat} {o : Oper} (ho : all[i]? = some o) : isEff T all i = true ↔ clsOf T o.op = .eff := by
  unfold isEff clsAt
  rw [ho]
  cases hc : clsOf T o.op <;> simp [hc]

include hok in
theorem free_eff {i : Nat} {o : Oper} (ho : all[i]? = some o) (hf : isFree o = true) : isEff T all i = false := by
  cases he : isEff T all i with
  | false => rfl
  | true =>
    rw [eff_cls ho] at he
    unfold isFree at hf
    split at hf
    · cases hf
    · split at hf <;> rename_i hop <;> first | (rw [hop] at he; simp [clsOf] at he; done) | cases hf

include tr hok in
theorem TrF.light {j : Nat} (hh : isEff T all j = false) (hj : j < all.size) : hs (j + 1) = hs j := by
  have hg : all[j]? = some all[j] := by simp [hj]
  cases hf : isFree all[j] with
  | true => obtain ⟨v, _, h, _⟩ := tr.free j _ hg hf; exact h
  | false =>
    obtain ⟨v, hv, _⟩ := tr.step j _ hg hf
    have hz : matz all n0 (mts T all) ct j j (hs j) = hs j := matz_none _ _ fun a ha hfa e => by
      obtain ⟨_, h2, h3⟩ := mts_prop (T := T) (a := a) (show a < all.size by omega)
      rw [e] at h3
      rcases h3 with h3 | h3
      · omega
      · rw [h3.1] at hh; cases hh
    rw [hz] at hv
    have key : ∀ v h', (outOf C T all[j] (es j) (hs j)).val (hs j) = some (v, h') → h' = hs j := by
      intro v h' hv
      have hna := (drawOkF_at hok hg).1.1
      rw [hf] at hna
      cases hcc : clsOf T all[j].op with
      | pure => exact (out_pure hcc hv).1
      | read => exact (out_read (h2 := hs j) hcc hv (fun _ _ _ _ _ => rfl)).1
      | alloc => rw [hcc] at hna; cases hna
      | eff => rw [(eff_cls hg).2 hcc] at hh; cases hh
    rw [stepV_iff] at hv
    split at hv
    · exact key _ _ hv
    · split at hv
      · exact key _ _ hv
      · exact hv.2
      · exact hv.elim

include tr hok in
theorem TrF.heap_same {S : Nat → Bool} : ∀ i, i ≤ all.size → (∀ j, j < i → isEff T all j = true → S j = true) → hs (hxP (isEff T all) S i) = hs i
  | 0, _, _ => rfl
  | i + 1, hi, h => by
    simp only [hxP]
    cases hh : isEff T all i with
    | true => rw [if_pos ⟨h i (by omega) hh, rfl⟩]
    | false => rw [if_neg (by simp), TrF.heap_same i (by omega) (fun j hj => h j (by omega)), tr.light hok hh (by omega)]

include tr in
theorem TrF.es_other {j t : Nat} (hd : dstAt all j ≠ some t) (hj : j < all.size) : es (j + 1) t = es j t := by
  have hg : all[j]? = some all[j] := by simp [hj]
  have he : ∃ v, es (j + 1) = (es j).put all[j].dst v := by
    cases hf : isFree all[j] with
    | true => obtain ⟨v, _, _, h⟩ := tr.free j _ hg hf; exact ⟨v, h⟩
    | false => obtain ⟨v, _, h⟩ := tr.step j _ hg hf; exact ⟨v, h⟩
  obtain ⟨v, he⟩ := he
  rw [he]
  have hda : dstAt all j = all[j].dst := by simp [dstAt, hj]
  rw [hda] at hd
  cases hdd : all[j].dst with
  | none => rfl
  | some d =>
    simp only [Env.put, Env.set]
    cases hb : Nat.beq t d with
    | false => rfl
    | true => have := Nat.eq_of_beq_eq_true hb; subst this; exact absurd hdd hd

include tr in
theorem TrF.val_text {S : Nat → Bool} {t : Nat} : ∀ i, i ≤ all.size → (∀ j, j < i → dstAt all j = some t → S j = true) → valR all es S i t = es i t
  | 0, _, _ => rfl
  | i + 1, hi, h => by
    simp only [valR]
    by_cases hd : dstAt all i = some t
    · rw [if_pos ⟨h i (by omega) hd, hd⟩]
    · rw [if_neg (fun x => hd x.2), TrF.val_text i (by omega) (fun j hj => h j (by omega)), tr.es_other hd (by omega)]

include hok in
theorem beforeF {S : Nat → Bool} (hcl : ∀ j, j < all.size → S j = true → ∀ e ∈ edgesAt all j, S e = true) {i j : Nat} (hj : j < all.size) (hr : Reach (edgesAt all) j i)
    (he : ∀ e ∈ edgesAt all j, S e = true) : S i = true ∧ i < j := by
  have hedge : ∀ a b, a < all.size → b ∈ edgesAt all a → b < a := by
    intro a b ha hb
    have : edgesAt all a = edges all[a] := by simp [edgesAt, ha]
    rw [this] at hb
    exact drawOkF_edges hok (j := a) (o := all[a]) (by simp [ha]) b hb
  induction hr with
  | base h => exact ⟨he _ h, hedge _ _ hj h⟩
  | step h r ih =>
    have h1 := hedge _ _ hj h
    have h2 := ih (by omega) (hcl _ (by omega) (he _ h))
    exact ⟨h2.1, by omega⟩
end

end Go.AM
