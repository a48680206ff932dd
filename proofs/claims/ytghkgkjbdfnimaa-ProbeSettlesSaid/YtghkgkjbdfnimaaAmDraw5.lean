/- Regions whose order is open and in which blocks may be made at any time: each step. Own work. -/
import Derived.Test.YtghkgkjbdfnimaaAmDraw4
namespace Go.AM
open Go Go.RowKit
set_option linter.unusedVariables false
set_option linter.unusedSimpArgs false
set_option linter.unusedSectionVars false

section
variable {P : Program} {T : TT} (hT : TAgree P T) {C : Cf} (hC : ∀ B, CallOK P B C) {B : BS P} {N : Nat} {rf : Bool} {μ0 : Img} {w0 : World} (ro : Option Nat) {all : Array Oper} {n0 : Nat}
  {es : Nat → Env} {hs : Nat → AH} {ct : Nat → List AV} (tr : TrF C T all n0 es hs ct) (hok : drawOkF T all = true)
  (hd : ∀ (i : Nat) (o : Oper) (d : Nat), all[i]? = some o → o.dst = some d → d < N)

/-- The blocks that are made and not laid down yet. -/
def Ear (T : TT) (all : Array Oper) (S : Nat → Bool) (x : Nat) (a : Nat) : Prop := a < all.size ∧ freeAt all a = true ∧ S a = true ∧ x ≤ (mts T all).getD a 0

/-- What is known of where all lies. -/
structure Lies {P : Program} (B : BS P) (N : Nat) (rf : Bool) (μ0 : Img) (w0 : World) (T : TT) (all : Array Oper) (n0 : Nat) (ct : Nat → List AV) (S : Nat → Bool) (E : Nat → Prop) (e : Env) (h : AH) (a : Act) (w : World) (μ : Img) (ρ : Nat → Nat) : Prop where
  sub : μ0.sub μ
  new : ∀ cb arr, μ.fz cb = some arr → μ0.fz cb = some arr ∨ ¬ μ0.old cb
  old : ∀ k, μ.old k ↔ (μ0.old k ∨ ∃ a, E a ∧ ρ a = k)
  res : ∀ b, μ.res b ↔ (μ0.res b ∨ ∃ a, a < all.size ∧ freeAt all a = true ∧ S a = false ∧ b = n0 + a)
  er : ER μ e a
  hr : HR (P := P) ⟨fun k => B k ∨ ∃ a, E a ∧ ρ a = k⟩ μ h w.heap
  size : a.tmps.size = N
  df : DefM rf N μ e a.defers
  below : BelowS B w0 w
  ear : ∀ a, E a → ∃ arr el, μ (n0 + a) = some (ρ a, 0, arr.size) ∧ w.heap[ρ a]? = some (.cells arr el (0, 0)) ∧ CellsR μ (ct a) arr 0 ∧ ¬ B (ρ a) ∧ ¬ μ0.old (ρ a) ∧ μ.fz (ρ a) = none
  inj : ∀ a a', E a → E a' → ρ a = ρ a' → a = a'

/-- The state when the operations of a set have been carried out, in whatever order. -/
structure DStF {P : Program} (B : BS P) (N : Nat) (rf : Bool) (μ0 : Img) (w0 : World) (T : TT) (all : Array Oper) (n0 : Nat) (es : Nat → Env) (hs : Nat → AH) (ct : Nat → List AV) (S : Nat → Bool) (a : Act) (w : World) : Prop where
  st : ∃ μ ρ, Lies B N rf μ0 w0 T all n0 ct S (Ear T all S (hxP (isEff T all) S all.size)) (valR all es S all.size) (hs (hxP (isEff T all) S all.size)) a w μ ρ
  closed : ∀ j, j < all.size → S j = true → ∀ e ∈ edgesAt all j, S e = true
  bnd : ∀ b, μ0.res b → b < n0

/-- Blocks are laid down. -/
theorem Lies.lay {S : Nat → Bool} {E : Nat → Prop} {e : Env} {a : Act} {w : World} {μ : Img} {ρ : Nat → Nat} {i : Nat} (hE : ∀ a, E a → a < all.size ∧ freeAt all a = true) :
    ∀ (k : Nat) (h : AH), (∀ a, a < k → freeAt all a = true → (mts T all).getD a 0 = i → E a) → Lies B N rf μ0 w0 T all n0 ct S E e h a w μ ρ →
      HR (P := P) ⟨fun k' => B k' ∨ ∃ a, (E a ∧ ¬ (a < k ∧ (mts T all).getD a 0 = i)) ∧ ρ a = k'⟩ μ (matz all n0 (mts T all) ct i k h) w.heap
  | 0, h, _, hl => by
    have : (fun k' => B k' ∨ ∃ a, (E a ∧ ¬ (a < 0 ∧ (mts T all).getD a 0 = i)) ∧ ρ a = k') = fun k' => B k' ∨ ∃ a, E a ∧ ρ a = k' := by
      funext k'; simp
    rw [this]; exact hl.hr
  | k + 1, h, hm, hl => by
    have ih := Lies.lay hE k h (fun a ha => hm a (by omega)) hl
    simp only [matz]
    split
    · rename_i hh
      simp only [Bool.and_eq_true] at hh
      have hi := Nat.eq_of_beq_eq_true hh.2
      have hEk := hm k (by omega) hh.1 hi
      obtain ⟨arr, el, g1, g2, g3, g4, g5, g6⟩ := hl.ear k hEk
      refine ih.lay g1 g2 g3 (.inr ⟨k, ⟨hEk, by omega⟩, rfl⟩) ?_ ?_ g6
      · rintro (hb | ⟨a', ⟨ha', hn⟩, e⟩)
        · exact g4 hb
        · have := hl.inj _ _ ha' hEk e
          subst this
          exact hn ⟨by omega, hi⟩
      · rintro k' (hb | ⟨a', ⟨ha', hn⟩, e⟩)
        · exact .inl hb
        · exact .inr ⟨a', ⟨ha', fun h => hn ⟨by omega, h.2⟩⟩, e⟩
    · rename_i hh
      have hne : (mts T all).getD k 0 = i → ¬ freeAt all k = true := fun h1 h2 => by rw [h2, h1] at hh; simp at hh
      have : (fun k' => B k' ∨ ∃ a, (E a ∧ ¬ (a < k + 1 ∧ (mts T all).getD a 0 = i)) ∧ ρ a = k') = fun k' => B k' ∨ ∃ a, (E a ∧ ¬ (a < k ∧ (mts T all).getD a 0 = i)) ∧ ρ a = k' := by
        funext k'
        apply propext
        constructor
        · rintro (hb | ⟨a', ⟨ha', hn⟩, e⟩)
          · exact .inl hb
          · exact .inr ⟨a', ⟨ha', fun h => hn ⟨by omega, h.2⟩⟩, e⟩
        · rintro (hb | ⟨a', ⟨ha', hn⟩, e⟩)
          · exact .inl hb
          · refine .inr ⟨a', ⟨ha', fun h => ?_⟩, e⟩
            by_cases e2 : a' = k
            · subst e2; exact hne h.2 (hE _ ha').2
            · exact hn ⟨by omega, h.2⟩
      rw [this]; exact ih

include hT hC tr hok hd

/-- One more operation of an open region. -/
theorem draw_stepF {S : Nat → Bool} {a : Act} {w : World} (hst : DStF B N rf μ0 w0 T all n0 es hs ct S a w) {i : Nat} (hi : i < all.size) (hiS : S i = false) (hready : ∀ e ∈ edgesAt all i, S e = true)
    (Q : Exit → Act → World → Prop) (next : Act → World → Prop)
    (hnext : ∀ a' w', DStF B N rf μ0 w0 T all n0 es hs ct (fun j => if j = i then true else S j) a' w' → next a' w') :
    wpOpIn (WF ro) 0 P all Q i next a w := by
  have hgi : all[i]? = some all[i] := by simp [hi]
  have hgj : ∀ j (hj : j < all.size), all[j]? = some all[j] := fun j hj => by simp [hj]
  have hda : ∀ j (hj : j < all.size), dstAt all j = all[j].dst := by intro j hj; simp [dstAt, hj]
  have hfa : ∀ j (hj : j < all.size), freeAt all j = isFree all[j] := by intro j hj; simp [freeAt, hj]
  -- what must have come before, and what cannot have
  have hbef : ∀ j, Reach (edgesAt all) i j → S j = true ∧ j < i := fun j hr => beforeF hok hst.closed hi hr hready
  have haft : ∀ j, j < all.size → Reach (edgesAt all) j i → S j = false := by
    intro j hj hr
    cases hSj : S j with
    | false => rfl
    | true =>
      have := (beforeF hok hst.closed hj hr (hst.closed j hj hSj)).1
      rw [hiS] at this; cases this
  have hpair : ∀ {p q : Nat}, p < q → (hp : p < all.size) → (hq : q < all.size) → PairOkF T all p q all[p] all[q] := fun hpq hp hq => (drawOkF_at hok (hgj _ hq)).2 _ _ (hgj _ hp) hpq
  have hw1 : ∀ t, t ∈ names all all[i] → ∀ j, j < i → dstAt all j = some t → S j = true := by
    intro t ht j hj hdj
    have hjl : j < all.size := by omega
    rcases (hpair hj hjl hi).or with h | ⟨_, h, _⟩
    · exact (hbef j h).1
    · rw [hda j hjl] at hdj; exact absurd ht (h t hdj)
  have hw2 : ∀ t, t ∈ names all all[i] → ∀ j, i ≤ j → j < all.size → dstAt all j = some t → S j = false := by
    intro t ht j hij hj hdj
    by_cases e : i = j
    · subst e; exact hiS
    · rcases (hpair (show i < j by omega) hi hj).or with h | ⟨_, _, h⟩
      · exact haft j hj h
      · rw [hda j hj] at hdj; exact absurd ht (h t hdj)
  have hval : ∀ t ∈ names all all[i], valR all es S all.size t = es i t := by
    intro t ht
    rw [valR_skip all.size (Nat.le_of_lt hi) (fun j h1 h2 h3 => hw2 t ht j h1 h2 h3)]
    exact tr.val_text i (Nat.le_of_lt hi) (fun j hj hdj => hw1 t ht j hj hdj)
  have hlook : ∀ t ∈ all[i].looksAt all, valR all es S all.size t = es i t := fun t ht => hval t (by unfold names; exact List.mem_append_right _ ht)
  -- effects come in the order of the text
  have heff : ∀ p q, p < q → q < all.size → isEff T all p = true → isEff T all q = true → Reach (edgesAt all) q p := by
    intro p q hpq hq hp hq2
    have hpl : p < all.size := by omega
    rcases (hpair hpq hpl hq).or with h | ⟨h, _⟩
    · exact h
    · have c1 := (eff_cls (hgj p hpl)).1 hp
      have c2 := (eff_cls (hgj q hq)).1 hq2
      have f1 : isFree all[p] = false := by
        cases hf : isFree all[p] with
        | false => rfl
        | true => rw [free_eff hok (hgj p hpl) hf] at hp; cases hp
      have f2 : isFree all[q] = false := by
        cases hf : isFree all[q] with
        | false => rfl
        | true => rw [free_eff hok (hgj q hq) hf] at hq2; cases hq2
      simp [clsF, f1, f2, c1, c2, mayPass2, mayPass] at h
  -- effects below the last one have come
  obtain ⟨x, hx⟩ : ∃ x, x = hxP (isEff T all) S all.size := ⟨_, rfl⟩
  have hxle : x ≤ all.size := by rw [hx]; exact hxP_le _
  have hxS : ∀ j, j < x → isEff T all j = true → S j = true := by
    intro j hj hje
    have hl := hxP_last (p := isEff T all) (S := S) all.size (by omega)
    rw [← hx] at hl
    by_cases e : j = x - 1
    · rw [e]; exact hl.1
    · exact (beforeF hok hst.closed (show x - 1 < all.size by omega) (heff j (x - 1) (by omega) (by omega) hje hl.2) (hst.closed _ (by omega) hl.1)).1
  have hxN : ∀ j, j < all.size → isEff T all j = true → S j = true → j < x := fun j hj hje hSj => by rw [hx]; exact hxP_ge hSj hje _ hj
  -- where blocks are laid down
  have hmtS : ∀ a, a < all.size → freeAt all a = true → (mts T all).getD a 0 < x → S a = true := by
    intro a ha hfa' hlt
    obtain ⟨h1, h2, h3⟩ := mts_prop (T := T) (a := a) ha
    rcases h3 with h3 | h3
    · omega
    · have hSm := hxS _ hlt h3.1
      exact (beforeF hok hst.closed (by omega) h3.2 (hst.closed _ (by omega) hSm)).1
  obtain ⟨μ, ρ, hl⟩ := hst.st
  have hbnd := hst.bnd
  rw [← hx] at hl
  -- the set behind the step
  have hclosed' : ∀ j, j < all.size → (if j = i then true else S j) = true → ∀ e ∈ edgesAt all j, (if e = i then true else S e) = true := by
    intro j hj hSj e hem
    by_cases e1 : e = i
    · exact if_pos e1
    · rw [if_neg e1]
      by_cases e2 : j = i
      · subst e2; exact hready e hem
      · rw [if_neg e2] at hSj; exact hst.closed j hj hSj e hem
  have hval' : ∀ (v : AV), es (i + 1) = (es i).put all[i].dst v → valR all es (fun j => if j = i then true else S j) all.size = Env.put (valR all es S all.size) all[i].dst v := by
    intro v hes
    funext t
    cases hdi : all[i].dst with
    | none =>
      simp only [Env.put]
      refine valR_congr all.size fun j hj hdj => ?_
      by_cases e : j = i
      · subst e; rw [hda j hj, hdi] at hdj; cases hdj
      · exact if_neg e
    | some d =>
      simp only [Env.put, Env.set]
      cases hb : Nat.beq t d with
      | true =>
        have := Nat.eq_of_beq_eq_true hb
        subst this
        rw [valR_skip (i := i + 1) all.size (by omega) (fun j h1 h2 h3 => by
          rw [if_neg (by omega)]
          exact hw2 t (by unfold names; rw [hdi]; simp) j (by omega) h2 h3)]
        simp only [valR]
        rw [if_pos ⟨by simp, by rw [hda i hi, hdi]⟩, hes, hdi]
        simp [Env.put, Env.set]
      | false =>
        have hne := Nat.ne_of_beq_eq_false hb
        refine valR_congr all.size fun j hj hdj => ?_
        by_cases e : j = i
        · subst e; rw [hda j hj, hdi] at hdj; cases hdj; exact absurd rfl hne
        · exact if_neg e
  have hhx' : isEff T all i = false → hxP (isEff T all) (fun j => if j = i then true else S j) all.size = x := by
    intro hne
    rw [hx]
    refine hxP_congr _ fun j hj hp => ?_
    by_cases e : j = i
    · subst e; rw [hne] at hp; cases hp
    · exact if_neg e
  cases hf : isFree all[i] with
  | true =>
    -- a block is made
    have hne := free_eff hok hgi hf
    obtain ⟨v, hmk, hhs, hes⟩ := tr.free i _ hgi hf
    have hfi : freeAt all i = true := by rw [hfa i hi]; exact hf
    have hmk' : mkOf T all[i] (valR all es S all.size) (n0 + i) = some (v, ct i) := by
      have hop : ∀ y ∈ all[i].op.operands, ev (valR all es S all.size) y = ev (es i) y := by
        intro y hy
        refine ev_congr fun t ht => hlook t ?_
        subst ht
        unfold Oper.looksAt
        refine List.mem_append_left _ ?_
        rw [List.mem_filterMap]
        exact ⟨.tmp t, by simpa using hy, rfl⟩
      revert hmk hop
      generalize all[i] = o
      intro hmk hop
      obtain ⟨dst, op, type, pos, after, guard⟩ := o
      unfold mkOf at hmk ⊢
      cases op <;> simp only [Op.operands] at hop hmk ⊢ <;> try (first | exact hmk | (cases hmk; done))
      case box t y => rw [hop y (by simp)]; exact hmk
      case buildSlice t n ps =>
        have : parts (valR all es S all.size) ps = parts (es i) ps := by
          unfold parts
          refine List.map_congr_left fun p hp => ?_
          rw [hop p.2 (by simp; exact ⟨p.1, by simpa using hp⟩)]
        rw [this]; exact hmk
    obtain ⟨v', arr, el, hrun, hcr, hvr⟩ := mk_sim hT hl.er w hmk'
    have hmtx : x ≤ (mts T all).getD i 0 := by
      refine Nat.le_of_not_lt fun hlt => ?_
      have := hmtS i hi hfi hlt
      rw [hiS] at this; cases this
    have hids : μ.res (n0 + i) := (hl.res _).2 (.inr ⟨i, hi, hfi, hiS, rfl⟩)
    obtain ⟨hμi, hμlt⟩ := hl.hr.res _ hids
    -- names
    obtain ⟨S', hS'⟩ : ∃ S' : Nat → Bool, S' = fun j => if j = i then true else S j := ⟨_, rfl⟩
    have hS'i : S' i = true := by rw [hS']; simp
    have hS'n : ∀ j, j ≠ i → S' j = S j := fun j hj => by rw [hS']; exact if_neg hj
    have hEar : ∀ b, Ear T all S' x b ↔ (Ear T all S x b ∨ b = i) := by
      intro b
      unfold Ear
      constructor
      · rintro ⟨h1, h2, h3, h4⟩
        by_cases e : b = i
        · exact .inr e
        · rw [hS'n b e] at h3; exact .inl ⟨h1, h2, h3, h4⟩
      · rintro (⟨h1, h2, h3, h4⟩ | rfl)
        · refine ⟨h1, h2, ?_, h4⟩
          by_cases e : b = i
          · rw [e]; exact hS'i
          · rw [hS'n b e]; exact h3
        · exact ⟨hi, hfi, hS'i, hmtx⟩
    have hEi : ¬ Ear T all S x i := fun h => by have := h.2.2.1; rw [hiS] at this; cases this
    obtain ⟨ρ', hρ'⟩ : ∃ ρ' : Nat → Nat, ρ' = fun b => if b = i then w.heap.size else ρ b := ⟨_, rfl⟩
    have hρi : ρ' i = w.heap.size := by rw [hρ']; simp
    have hρn : ∀ b, b ≠ i → ρ' b = ρ b := fun b hb => by rw [hρ']; exact if_neg hb
    have hEn : ∀ b, Ear T all S x b → b ≠ i := fun b hb e => hEi (by rw [← e]; exact hb)
    obtain ⟨μ', hμ'⟩ : ∃ μ' : Img, μ' = ⟨(μ.upd (n0 + i) (w.heap.size, 0, arr.size)).m, μ.fz, fun k => μ0.old k ∨ ∃ b, Ear T all S' x b ∧ ρ' b = k,
        fun b => μ0.res b ∨ ∃ c, c < all.size ∧ freeAt all c = true ∧ S' c = false ∧ b = n0 + c⟩ := ⟨_, rfl⟩
    have hsub : μ.sub μ' := by
      rw [hμ']
      refine ⟨fun b y hb => ?_, fun _ _ h => h⟩
      show (μ.upd _ _) b = some y
      rw [Img.upd_at, if_neg (fun e => by rw [e, hμi] at hb; cases hb)]; exact hb
    have hμ'i : μ' (n0 + i) = some (w.heap.size, 0, arr.size) := by rw [hμ']; exact upd_self _ _ _
    have hrlt : ∀ b, Ear T all S x b → ρ b < w.heap.size := by
      intro b hb
      obtain ⟨arr, el, g1, g2, _⟩ := hl.ear b hb
      exact (Array.getElem?_eq_some_iff.1 g2).1
    unfold wpOpIn
    rw [hgi]
    simp only
    have hgd : all[i].guard = none := by
      unfold isFree at hf
      cases hg : all[i].guard with
      | none => rfl
      | some _ => rw [hg] at hf; cases hf
    have hwant : Region.wanted all[i] (yielded all a.tmps) = true := by simp [Region.wanted, hgd]
    rw [if_pos hwant]
    have hnd : ∀ c, all[i].op ≠ .defer c := by
      intro c hc
      unfold isFree at hf
      rw [hgd, hc] at hf
      cases hf
    refine wp_value hrun (hnext _ _ ⟨?_, hclosed', ?_⟩) hnd
    · rw [hhx' hne, hval' v hes]
      refine ⟨μ', ρ', ?_⟩
      rw [← hS']
      have hv' : VR μ' v v' := hvr μ' hμ'i
      have her : ER μ' (valR all es S all.size) a := fun t => (hl.er t).sub hsub
      refine ⟨hl.sub.trans hsub, fun cb arr' hfz => ?_, fun k => ?_, fun b => ?_, her.put hv' (fun d hd' => by rw [hl.size]; exact hd i _ d hgi hd'), ?_, by rw [put_size, hl.size], ?_, ?_, ?_, ?_⟩
      · rw [hμ'] at hfz; exact hl.new cb arr' hfz
      · rw [hμ']
      · rw [hμ']
      · rw [hμ']
        refine hl.hr.keepNew hμlt hμi (fun k hk => ?_) (fun k hk => ?_) (fun b hb => ?_)
        · rcases hk with hk | ⟨b, hb, rfl⟩
          · exact .inl (.inl hk)
          · rcases (hEar b).1 hb with hb | rfl
            · rw [hρn b (hEn b hb)]; exact .inl (.inr ⟨b, hb, rfl⟩)
            · exact .inr hρi
        · rcases hk with hk | ⟨b, hb, rfl⟩
          · exact .inl ((hl.old _).2 (.inl hk))
          · rcases (hEar b).1 hb with hb | rfl
            · rw [hρn b (hEn b hb)]; exact .inl ((hl.old _).2 (.inr ⟨b, hb, rfl⟩))
            · exact .inr hρi
        · rcases hb with hb | ⟨c, hc1, hc2, hc3, rfl⟩
          · exact ⟨(hl.res b).2 (.inl hb), fun e => by have := hbnd b hb; omega⟩
          · have hci : c ≠ i := fun e => by rw [e, hS'i] at hc3; cases hc3
            rw [hS'n c hci] at hc3
            exact ⟨(hl.res _).2 (.inr ⟨c, hc1, hc2, hc3, rfl⟩), by omega⟩
      · rw [put_defers]
        have h1 : DefM rf N μ' (valR all es S all.size) a.defers := by
          have := hl.df
          cases hrf : rf with
          | false => rw [hrf] at this; exact this
          | true =>
            rw [hrf] at this
            obtain ⟨q1, cbs, q2, q3, q4⟩ := this
            exact ⟨q1, cbs, q2, q3, fun i m hi => let ⟨c, δ, M, g1, g2⟩ := q4 i m hi; ⟨c, δ, M, g1, hsub.m _ _ g2⟩⟩
        exact h1.put (fun d hd' => hd i _ d hgi hd')
      · exact hl.below.trans (below_push w _ fun k hk => hl.hr.base k (.inl hk))
      · intro b hb
        rcases (hEar b).1 hb with hb | rfl
        · obtain ⟨arr', el', g1, g2, g3, g4, g5, g6⟩ := hl.ear b hb
          rw [hρn b (hEn b hb)]
          refine ⟨arr', el', hsub.m _ _ g1, ?_, g3.sub hsub, g4, g5, by rw [hμ']; exact g6⟩
          have hlt := hrlt b hb
          show (w.heap.push _)[ρ b]? = _
          rw [Array.getElem?_push_lt hlt]; simpa [hlt] using g2
        · rw [hρi]
          refine ⟨arr, el, hμ'i, by show (w.heap.push _)[w.heap.size]? = _; simp, hcr.sub hsub, fun hb => ?_, fun hb => ?_, ?_⟩
          · have := hl.hr.base _ (.inl hb); omega
          · have := hl.hr.old _ ((hl.old _).2 (.inl hb)); omega
          · rw [hμ']
            show μ.fz w.heap.size = none
            cases hfz : μ.fz w.heap.size with
            | none => rfl
            | some a => exact absurd (hl.hr.frz_lt hfz) (Nat.lt_irrefl _)
      · intro b b' hb hb' hee
        rcases (hEar b).1 hb with hb | hb <;> rcases (hEar b').1 hb' with hb' | hb'
        · rw [hρn b (hEn b hb), hρn b' (hEn b' hb')] at hee; exact hl.inj b b' hb hb' hee
        · rw [hρn b (hEn b hb), hb', hρi] at hee; have := hrlt b hb; omega
        · rw [hb, hρi, hρn b' (hEn b' hb')] at hee; have := hrlt b' hb'; omega
        · rw [hb, hb']
    · exact hbnd
  | false =>
    obtain ⟨v, hv, hes⟩ := tr.step i _ hgi hf
    have hfi : freeAt all i = false := by rw [hfa i hi]; exact hf
    obtain ⟨x', hx'⟩ : ∃ x', x' = hxP (isEff T all) (fun j => if j = i then true else S j) all.size := ⟨_, rfl⟩
    -- the step, at the heap as it now stands
    have key : (∀ b, Ear T all (fun j => if j = i then true else S j) x' b ↔ Ear T all S x b ∧ (mts T all).getD b 0 ≠ i) ∧
        (∀ b, b < i → freeAt all b = true → (mts T all).getD b 0 = i → Ear T all S x b) ∧ (∀ b, (mts T all).getD b 0 = i → b < all.size → b < i) ∧
        stepV C T all all[i] (es i) (matz all n0 (mts T all) ct i i (hs x)) = some (v, hs x') := by
      have hmi : ∀ b, (mts T all).getD b 0 = i → b < all.size → b < i := fun b hb hbl => by have := (mts_prop (T := T) (a := b) hbl).1; omega
      have hSfree : ∀ b, freeAt all b = true → (fun j => if j = i then true else S j) b = S b := fun b hb => if_neg fun e => by rw [e, hfi] at hb; cases hb
      cases hei : isEff T all i with
      | true =>
        have hxi : x ≤ i := by
          refine Nat.le_of_not_lt fun hlt => ?_
          have := hxS i hlt hei
          rw [hiS] at this; cases this
        have hbi : ∀ j, j < i → isEff T all j = true → S j = true := fun j hj hje => (hbef j (heff j i hj hi hje hei)).1
        have hx'e : x' = i + 1 := by
          rw [hx']
          have hai : ∀ j, i + 1 ≤ j → j < all.size → isEff T all j = true → (if j = i then true else S j) = false := fun j h1 h2 h3 => by
            rw [if_neg (by omega)]; exact haft j h2 (heff i j (by omega) h2 hei h3)
          have := hxP_eq (p := isEff T all) (S := fun j => if j = i then true else S j) (m := i + 1) (fun j hj hp => by
            by_cases e : j = i
            · exact if_pos e
            · exact (if_neg e).trans (hbi j (by omega) hp)) all.size (by omega) hai
          rw [this]
          simp only [hxP]
          rw [if_pos ⟨trivial, hei⟩]
        have hhsx : hs x = hs i := by
          have h1 := tr.heap_same hok (S := S) i (Nat.le_of_lt hi) hbi
          have h2 : hxP (isEff T all) S i = x := by
            rw [hx]
            have e1 := hxP_eq (p := isEff T all) (S := S) (m := i) (fun j hj hp => hbi j hj hp) all.size (Nat.le_of_lt hi) (fun j h1 h2 h3 => by
              by_cases e : j = i
              · rw [e]; exact hiS
              · exact haft j h2 (heff i j (by omega) h2 hei h3))
            have e2 := hxP_eq (p := isEff T all) (S := S) (m := i) (fun j hj hp => hbi j hj hp) i (Nat.le_refl _) (fun j h1 h2 => by omega)
            rw [e1, e2]
          rw [← h2]; exact h1
        refine ⟨fun b => ?_, fun b hb hfb hmb => ?_, hmi, ?_⟩
        · unfold Ear
          rw [hx'e]
          constructor
          · rintro ⟨h1, h2, h3, h4⟩
            replace h3 := (hSfree b h2).symm.trans h3
            exact ⟨⟨h1, h2, h3, by omega⟩, by omega⟩
          · rintro ⟨⟨h1, h2, h3, h4⟩, h5⟩
            refine ⟨h1, h2, (hSfree b h2).trans h3, ?_⟩
            -- nothing is laid down between
            refine Nat.succ_le_of_lt (Nat.lt_of_le_of_ne (Nat.le_of_not_lt fun hlt => ?_) fun e => h5 e.symm)
            obtain ⟨_, g2, g3⟩ := mts_prop (T := T) (a := b) h1
            rcases g3 with g3 | g3
            · omega
            · have := hbi _ hlt g3.1
              have := hxN _ (by omega) g3.1 this
              omega
        · obtain ⟨_, g2, g3⟩ := mts_prop (T := T) (a := b) (show b < all.size by omega)
          rw [hmb] at g3
          rcases g3 with g3 | g3
          · omega
          · exact ⟨by omega, hfb, (hbef b g3.2).1, by omega⟩
        · rw [hhsx, hx'e]; exact hv
      | false =>
        have hx'e : x' = x := by rw [hx']; exact hhx' hei
        have hmn : ∀ b, b < all.size → (mts T all).getD b 0 ≠ i := fun b hb e => by
          obtain ⟨_, g2, g3⟩ := mts_prop (T := T) (a := b) hb
          rw [e] at g3
          rcases g3 with g3 | g3
          · omega
          · rw [g3.1] at hei; cases hei
        have hz : ∀ h, matz all n0 (mts T all) ct i i h = h := fun h => matz_none _ _ fun b hb _ => hmn b (by omega)
        refine ⟨fun b => ?_, fun b hb _ hmb => absurd hmb (hmn b (by omega)), hmi, ?_⟩
        · unfold Ear
          rw [hx'e]
          constructor
          · rintro ⟨h1, h2, h3, h4⟩
            replace h3 := (hSfree b h2).symm.trans h3
            exact ⟨⟨h1, h2, h3, h4⟩, hmn b h1⟩
          · rintro ⟨⟨h1, h2, h3, h4⟩, h5⟩
            exact ⟨h1, h2, (hSfree b h2).trans h3, h4⟩
        · rw [hz, hx'e]
          rw [hz, tr.light hok hei hi] at hv
          -- soft reads
          cases hsf : isSoft T all (clos all.toList []) i with
          | true =>
            have hmem : (i, loF T all (clos all.toList []) i i, hiF T all (clos all.toList []) i (all.size - (i + 1)) (i + 1)) ∈ softsF T all := by
              unfold softsF
              refine List.mem_map.2 ⟨i, ?_, rfl⟩
              rw [List.mem_filter]
              exact ⟨by simp [hi], hsf⟩
            have hlo : loF T all (clos all.toList []) i i ≤ x := by
              rcases loF_prop (T := T) (all := all) (cl := clos all.toList []) (i := i) i with h | ⟨j, hj, h, hhj, hb⟩
              · omega
              · have := hxN j (by omega) hhj (hbef j (clos_reach hb)).1
                omega
            have hhiB : x ≤ hiF T all (clos all.toList []) i (all.size - (i + 1)) (i + 1) := by
              rcases hiF_prop (T := T) (all := all) (cl := clos all.toList []) (i := i) (all.size - (i + 1)) (i + 1) with h | ⟨j, hj1, hj2, h, hhj, hb⟩
              · omega
              · rw [h]
                refine Nat.le_of_not_lt fun hlt => ?_
                have hjl : j < all.size := by omega
                have hSj := haft j hjl (clos_reach hb)
                have := hxS j hlt hhj
                rw [hSj] at this; cases this
            obtain ⟨v1, h1, h2, hs1, hs2⟩ := tr.soft i _ _ all[i] hmem hgi _ hlo hhiB
            rw [hv] at hs1
            cases hs1
            have hrd : clsOf T all[i].op = .read := by
              have hca : clsAt T all i = clsOf T all[i].op := by simp [clsAt, hi]
              unfold isSoft isRead at hsf
              rw [hca] at hsf
              cases hcc : clsOf T all[i].op <;> rw [hcc] at hsf <;> simp at hsf ⊢
            have : h2 = hs x := by
              rw [stepV_iff] at hs2
              split at hs2
              · exact (out_read (h2 := hs x) hrd hs2 (fun _ _ _ _ _ => rfl)).1
              · split at hs2
                · exact (out_read (h2 := hs x) hrd hs2 (fun _ _ _ _ _ => rfl)).1
                · exact hs2.2
                · exact hs2.elim
            rw [this] at hs2
            exact hs2
          | false =>
            have hna := (drawOkF_at hok hgi).1.1
            rw [hf] at hna
            have hrdx : clsOf T all[i].op = .read → hs x = hs i := by
              intro hrd
              have hns : ∀ j, j < all.size → isEff T all j = true → Reach (edgesAt all) j i ∨ Reach (edgesAt all) i j := by
                intro j hj hje
                unfold isSoft at hsf
                rw [Bool.and_eq_false_iff] at hsf
                rcases hsf with hsf | hsf
                · have hca : clsAt T all i = clsOf T all[i].op := by simp [clsAt, hi]
                  unfold isRead at hsf; rw [hca, hrd] at hsf; cases hsf
                · rw [List.any_eq_false] at hsf
                  have := hsf j (by simp [hj])
                  rw [hje] at this
                  simp only [Bool.true_and, Bool.and_eq_true, Bool.not_eq_true', not_and, Bool.not_eq_false] at this
                  cases hb : ((clos all.toList []).getD i 0).testBit j with
                  | true => exact .inr (clos_reach hb)
                  | false => exact .inl (clos_reach (this hb))
              have hbi : ∀ j, j < i → isEff T all j = true → S j = true := fun j hj hje => by
                rcases hns j (by omega) hje with h | h
                · -- what waits for i comes behind it
                  have := (beforeF hok (S := fun _ => true) (fun _ _ _ _ _ => rfl) (show j < all.size by omega) h (fun _ _ => rfl)).2
                  omega
                · exact (hbef j h).1
              have hai : ∀ j, i ≤ j → j < all.size → isEff T all j = true → S j = false := fun j hij hj hje => by
                by_cases e : j = i
                · rw [e]; exact hiS
                · rcases hns j hj hje with h | h
                  · exact haft j hj h
                  · have := (hbef j h).2; omega
              have h1 := tr.heap_same hok (S := S) i (Nat.le_of_lt hi) hbi
              have e1 := hxP_eq (p := isEff T all) (S := S) (m := i) (fun j hj hp => hbi j hj hp) all.size (Nat.le_of_lt hi) hai
              have e2 := hxP_eq (p := isEff T all) (S := S) (m := i) (fun j hj hp => hbi j hj hp) i (Nat.le_refl _) (fun j h1 h2 => by omega)
              rw [hx, e1, ← e2]; exact h1
            have key : (outOf C T all[i] (es i) (hs i)).val (hs i) = some (v, hs i) → (outOf C T all[i] (es i) (hs x)).val (hs x) = some (v, hs x) := by
              intro hv
              cases hcc : clsOf T all[i].op with
              | alloc => rw [hcc] at hna; cases hna
              | eff => rw [(eff_cls hgi).2 hcc] at hei; cases hei
              | pure => exact (out_pure hcc hv).2 _
              | read => rw [hrdx hcc]; exact hv
            rw [stepV_iff] at hv ⊢
            cases hg : guardOf all all[i] (es i) with
            | none => rw [hg] at hv; exact key hv
            | some p =>
              rw [hg] at hv
              simp only at hv ⊢
              cases hw : wants p.1 p.2 with
              | none => rw [hw] at hv; exact hv.elim
              | some b =>
                rw [hw] at hv
                cases b with
                | true => exact key hv
                | false => exact ⟨hv.1, trivial⟩
    obtain ⟨hEar, hEi, hmi, hstep⟩ := key
    obtain ⟨E', hE'⟩ : ∃ E' : Nat → Prop, E' = Ear T all (fun j => if j = i then true else S j) x' := ⟨_, rfl⟩
    rw [← hE'] at hEar
    have hlay := hl.lay (i := i) (fun b hb => ⟨hb.1, hb.2.1⟩) i (hs x) hEi
    have hBeq : (fun k' => B k' ∨ ∃ b, (Ear T all S x b ∧ ¬ (b < i ∧ (mts T all).getD b 0 = i)) ∧ ρ b = k') = fun k' => B k' ∨ ∃ b, E' b ∧ ρ b = k' := by
      funext k'
      apply propext
      constructor
      · rintro (h | ⟨b, ⟨h1, h2⟩, h3⟩)
        · exact .inl h
        · exact .inr ⟨b, (hEar b).2 ⟨h1, fun e => h2 ⟨hmi b e h1.1, e⟩⟩, h3⟩
      · rintro (h | ⟨b, h1, h3⟩)
        · exact .inl h
        · obtain ⟨h1, h2⟩ := (hEar b).1 h1
          exact .inr ⟨b, ⟨h1, fun h => h2 h.2⟩, h3⟩
    rw [hBeq] at hlay
    obtain ⟨B2, hB2⟩ : ∃ B2 : BS P, B2 = ⟨fun k' => B k' ∨ ∃ b, E' b ∧ ρ b = k'⟩ := ⟨_, rfl⟩
    rw [← hB2] at hlay
    have hst2 : St B2 N rf μ w (valR all es S all.size) (matz all n0 (mts T all) ct i i (hs x)) a w := ⟨μ, Img.le.refl μ, hl.er, hlay, hl.size, hl.df, .refl _ _⟩
    rw [← stepV_congr hlook] at hstep
    unfold wpOpIn
    rw [hgi]
    simp only
    refine step_sim hT (hC B2) ro hst2 (r := (v, hs x')) (K := fun v h => some (v, h)) hstep (fun d hd' => hd i _ d hgi hd') Q next ?_
    intro v1 h1 a' w' he hst'
    cases he
    obtain ⟨μ', hμ', her, hr', hN', hdf', hB'⟩ := hst'
    have hBle : ∀ k, B k → B2 k := fun k hk => by rw [hB2]; exact .inl hk
    obtain ⟨μ'', hμ''⟩ : ∃ μ'' : Img, μ'' = ⟨μ'.m, μ'.fz, fun k => μ0.old k ∨ ∃ b, E' b ∧ ρ b = k, μ'.res⟩ := ⟨_, rfl⟩
    have hs1 : μ'.sub μ'' := by rw [hμ'']; exact Img.sub_same _ _ _
    have hs2 : μ.sub μ'' := hμ'.sub.trans hs1
    refine hnext a' w' ⟨?_, hclosed', ?_⟩
    · rw [← hx', ← hE', hval' v hes]
      refine ⟨μ'', ρ, hl.sub.trans hs2, fun cb arr hfz => ?_, fun k => by rw [hμ''], fun b => ?_, fun t => (her t).sub hs1, ?_, hN', ?_, hl.below.trans (hB'.mono hBle), fun b hb => ?_, fun b b' hb hb' => ?_⟩
      · have hfz' : μ'.fz cb = some arr := by rw [hμ''] at hfz; exact hfz
        rcases hμ'.new cb arr hfz' with h | h
        · exact hl.new cb arr h
        · exact .inr fun ho => h ((hl.old cb).2 (.inl ho))
      · rw [hμ'']
        show μ'.res b ↔ _
        rw [hμ'.res, hl.res b]
        constructor
        · rintro (h | ⟨c, h1, h2, h3, h4⟩)
          · exact .inl h
          · exact .inr ⟨c, h1, h2, by rw [if_neg (fun e => by rw [e, hfi] at h2; cases h2)]; exact h3, h4⟩
        · rintro (h | ⟨c, h1, h2, h3, h4⟩)
          · exact .inl h
          · rw [if_neg (fun e => by rw [e, hfi] at h2; cases h2)] at h3
            exact .inr ⟨c, h1, h2, h3, h4⟩
      · rw [← hB2, hμ'']
        refine hr'.setOR (fun k hk => ?_) hr'.res
        refine hr'.old k ?_
        rw [hμ'.old]
        rcases hk with hk | ⟨b, hb, rfl⟩
        · exact (hl.old k).2 (.inl hk)
        · exact (hl.old _).2 (.inr ⟨b, ((hEar b).1 hb).1, rfl⟩)
      · cases hrf : rf with
        | false => rw [hrf] at hdf'; exact hdf'
        | true =>
          rw [hrf] at hdf'
          obtain ⟨q1, cbs, q2, q3, q4⟩ := hdf'
          exact ⟨q1, cbs, q2, q3, fun i m hi => let ⟨c, δ, M, g1, g2⟩ := q4 i m hi; ⟨c, δ, M, g1, hs1.m _ _ g2⟩⟩
      · obtain ⟨arr, el, g1, g2, g3, g4, g5, g6⟩ := hl.ear b ((hEar b).1 hb).1
        refine ⟨arr, el, hs2.m _ _ g1, ?_, g3.sub hs2, g4, g5, ?_⟩
        · rw [hB'.block (ρ b) (by rw [hB2]; exact .inr ⟨b, hb, rfl⟩)]; exact g2
        · rw [hμ'']
          show μ'.fz (ρ b) = none
          cases hfz : μ'.fz (ρ b) with
          | none => rfl
          | some arr' =>
            rcases hμ'.new _ _ hfz with h | h
            · rw [g6] at h; cases h
            · exact absurd ((hl.old _).2 (.inr ⟨b, ((hEar b).1 hb).1, rfl⟩)) h
      · exact hl.inj b b' ((hEar b).1 hb).1 ((hEar b').1 hb').1
    · exact hbnd

theorem draw_anyF {Q : Exit → Act → World → Prop} (hQ : ∀ a w, St B N rf μ0 w0 (es all.size) (matz all n0 (mts T all) ct all.size all.size (hs all.size)) a w → Q .normal a w) :
    ∀ (fuel : Nat) (listed : Array Bool) (a : Act) (w : World), listed.size = all.size → listed.toList.count false ≤ fuel → DStF B N rf μ0 w0 T all n0 es hs ct (setOf listed) a w →
      wpAnyIn (WF ro) 0 P .any all Q fuel listed a w := by
  have hmem : ∀ (listed : Array Bool) (i : Nat), listed.size = all.size → i ∈ Region.ready .any all listed → i < all.size ∧ setOf listed i = false ∧ ∀ e ∈ edgesAt all i, setOf listed e = true := by
    intro listed i hsz hi
    unfold Region.ready at hi
    rw [List.mem_filter] at hi
    obtain ⟨hi, hc⟩ := hi
    rw [List.mem_range] at hi
    simp only [Bool.and_eq_true, Bool.not_eq_true'] at hc
    refine ⟨hi, hc.1, ?_⟩
    have hg : all[i]? = some all[i] := by simp [hi]
    have he : edgesAt all i = edges all[i] := by simp [edgesAt, hi]
    rw [he]
    intro e hem
    rw [hg] at hc
    have hc2 : (all[i].after.all fun e => !Region.binds .any e || listed.getD e.on false) = true := by simpa using hc.2
    unfold edges at hem
    rw [List.mem_map] at hem
    obtain ⟨ed, hed, rfl⟩ := hem
    rw [List.mem_filter] at hed
    have := (Array.all_eq_true_iff_forall_mem.1 hc2) ed (by simpa using hed.1)
    rw [hed.2] at this
    simp only [Bool.not_true, Bool.false_or] at this
    have hlt : ed.on < listed.size := by
      by_cases h : ed.on < listed.size
      · exact h
      · rw [Array.getD_eq_getD_getElem?, Array.getElem?_eq_none (by omega)] at this; simp at this
    unfold setOf
    rw [Array.getD_eq_getD_getElem?] at this ⊢
    simp only [Array.getElem?_eq_getElem hlt, Option.getD_some] at this ⊢
    exact this
  have hdone : ∀ (listed : Array Bool) (a : Act) (w : World), listed.size = all.size → Region.ready .any all listed = [] → DStF B N rf μ0 w0 T all n0 es hs ct (setOf listed) a w → Q .normal a w := by
    intro listed a w hsz hnil hst
    have hall : ∀ j, j < all.size → setOf listed j = true := by
      intro j
      induction j using Nat.strongRecOn with
      | _ j ih =>
        intro hj
        cases hS : setOf listed j with
        | true => rfl
        | false =>
          exfalso
          have : j ∈ Region.ready .any all listed := by
            unfold Region.ready
            rw [List.mem_filter]
            refine ⟨by simp [hj], ?_⟩
            simp only [Bool.and_eq_true, Bool.not_eq_true']
            refine ⟨hS, ?_⟩
            have hg : all[j]? = some all[j] := by simp [hj]
            rw [hg]
            simp only [Option.map_some, Option.getD_some]
            rw [Array.all_eq_true_iff_forall_mem]
            intro ed hed
            cases hb : Region.binds .any ed with
            | false => rfl
            | true =>
              simp only [Bool.not_true, Bool.false_or]
              have hem : ed.on ∈ edges all[j] := by
                unfold edges
                rw [List.mem_map]
                exact ⟨ed, by rw [List.mem_filter]; exact ⟨by simpa using hed, hb⟩, rfl⟩
              have hlt := drawOkF_edges hok (j := j) (o := all[j]) hg _ hem
              have := ih ed.on hlt (by omega)
              unfold setOf at this
              have hl2 : ed.on < listed.size := by omega
              rw [Array.getD_eq_getD_getElem?] at this ⊢
              simp only [Array.getElem?_eq_getElem hl2, Option.getD_some] at this ⊢
              exact this
          rw [hnil] at this; cases this
    have h1 : valR all es (setOf listed) all.size = es all.size := funext fun t => tr.val_text all.size (Nat.le_refl _) (fun j hj _ => hall j hj)
    obtain ⟨μ, ρ, hl⟩ := hst.st
    have h2 : hs (hxP (isEff T all) (setOf listed) all.size) = hs all.size := tr.heap_same hok all.size (Nat.le_refl _) (fun j hj _ => hall j hj)
    have hlay := hl.lay (i := all.size) (fun b hb => ⟨hb.1, hb.2.1⟩) all.size _ (fun b hb hfb hmb => ⟨hb, hfb, hall b hb, by rw [hmb]; exact hxP_le _⟩)
    have hBeq : (fun k' => B k' ∨ ∃ b, (Ear T all (setOf listed) (hxP (isEff T all) (setOf listed) all.size) b ∧ ¬ (b < all.size ∧ (mts T all).getD b 0 = all.size)) ∧ ρ b = k') = B := by
      funext k'
      apply propext
      constructor
      · rintro (h | ⟨b, ⟨h3, h4⟩, _⟩)
        · exact h
        · exfalso
          obtain ⟨g1, g2, g3⟩ := mts_prop (T := T) (a := b) h3.1
          rcases g3 with g3 | g3
          · exact h4 ⟨h3.1, g3⟩
          · have hlt : (mts T all).getD b 0 < all.size := by
              refine Nat.lt_of_le_of_ne g2 fun e => h4 ⟨h3.1, e⟩
            have := hxP_ge (S := setOf listed) (hall _ hlt) g3.1 all.size hlt
            have := h3.2.2.2
            omega
      · exact .inl
    rw [hBeq, h2] at hlay
    rw [h1] at hl
    refine hQ a w ⟨⟨μ.m, μ.fz, μ0.old, μ0.res⟩, ⟨hl.sub.m, hl.sub.fz, rfl, hl.new, rfl⟩, fun t => (hl.er t).sub (Img.sub_same _ _ _), hlay.setOR (fun k hk => hl.hr.old k ((hl.old k).2 (.inl hk))) (fun b hb => hlay.res b ((hl.res b).2 (.inl hb))), hl.size, ?_, hl.below⟩
    have hdf := hl.df
    cases hrf : rf with
    | false => rw [hrf] at hdf; exact hdf
    | true =>
      rw [hrf] at hdf
      obtain ⟨q1, cbs, q2, q3, q4⟩ := hdf
      exact ⟨q1, cbs, q2, q3, fun i m hi => let ⟨c, δ, M, g1, g2⟩ := q4 i m hi; ⟨c, δ, M, g1, g2⟩⟩
  intro fuel
  induction fuel with
  | zero =>
    intro listed a w hsz hcnt hst
    have hnil : Region.ready .any all listed = [] := by
      cases hr : Region.ready .any all listed with
      | nil => rfl
      | cons i l =>
        exfalso
        obtain ⟨hi, hS, _⟩ := hmem listed i hsz (by rw [hr]; simp)
        have : listed.toList.count false = 0 := by omega
        rw [List.count_eq_zero] at this
        apply this
        unfold setOf at hS
        have hl : i < listed.size := by omega
        rw [Array.getD_eq_getD_getElem?, Array.getElem?_eq_getElem hl, Option.getD_some] at hS
        rw [← hS]; simp
    exact ⟨hnil, hdone listed a w hsz hnil hst⟩
  | succ fuel ih =>
    intro listed a w hsz hcnt hst
    refine ⟨fun hnil => hdone listed a w hsz hnil hst, fun i hi => ?_⟩
    obtain ⟨hil, hiS, hready⟩ := hmem listed i hsz hi
    refine draw_stepF hT hC ro tr hok hd hst hil hiS hready Q _ ?_
    intro a' w' hst'
    have hl : i < listed.size := by omega
    refine ih (listed.setIfInBounds i true) a' w' (by simp [hsz]) ?_ ?_
    · rw [Array.toList_setIfInBounds]
      unfold setOf at hiS
      rw [Array.getD_eq_getD_getElem?, Array.getElem?_eq_getElem hl, Option.getD_some] at hiS
      have hil2 : i < listed.toList.length := by simpa using hl
      have h3 : listed.toList[i] = false := by simpa using hiS
      have h4 : listed.toList.count false = (listed.toList.take i).count false + 1 + (listed.toList.drop (i + 1)).count false := by
        conv => lhs; rw [← List.take_append_drop i listed.toList, List.drop_eq_getElem_cons hil2, h3]
        rw [List.count_append, List.count_cons_self]; omega
      have h5 : (listed.toList.set i true).count false = (listed.toList.take i).count false + (listed.toList.drop (i + 1)).count false := by
        rw [List.set_eq_take_append_cons_drop, if_pos hil2, List.count_append, List.count_cons_of_ne (by simp)]
      omega
    · have : setOf (listed.setIfInBounds i true) = fun j => if j = i then true else setOf listed j := by
        funext j
        unfold setOf
        by_cases e : j = i
        · subst e; simp [Array.getD, hl]
        · rw [if_neg e, Array.getD_eq_getD_getElem?, Array.getElem?_setIfInBounds_ne (fun e2 => e e2.symm), ← Array.getD_eq_getD_getElem?]
      rw [this]; exact hst'


end
end Go.AM
