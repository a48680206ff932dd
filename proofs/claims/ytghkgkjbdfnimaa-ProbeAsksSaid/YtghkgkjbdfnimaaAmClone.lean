/- slices.Clone at whole numbers, by its contract: its answer is a value. Own work. -/
import Derived.Test.YtghkgkjbdfnimaaAmRow
import Derived.Laws.AppendOwn
namespace Go.AM
open Go Go.RowKit
set_option linter.unusedVariables false

/-- Whole numbers, and nothing else. -/
def intL : List AV → Option (List Int)
  | [] => some []
  | .int .i64 n :: l => (intL l).map (n :: ·)
  | _ => none
theorem intL_map : ∀ zs : List Int, intL (zs.map fun n => .int .i64 n) = some zs
  | [] => rfl
  | z :: zs => by simp [intL, intL_map zs]
theorem intL_spec : ∀ {cs : List AV} {zs : List Int}, intL cs = some zs → cs = zs.map fun n => .int .i64 n
  | [], zs, h => by simp [intL] at h; subst h; rfl
  | c :: cs, zs, h => by
    unfold intL at h
    split at h
    · rename_i he; cases he
    · rename_i n l he
      cases he
      simp only [Option.map_eq_some_iff] at h
      obtain ⟨a, ha, rfl⟩ := h
      rw [List.map_cons, ← intL_spec ha]
    · cases h
theorem VRL.ints {μ : Img} : ∀ zs : List Int, VRL μ (zs.map fun n => AV.int .i64 n) (zs.map (Value.int .i64))
  | [] => VRL.nil
  | z :: zs => VRL.cons (VR.mk_int _ _) (VRL.ints zs)
theorem VRL.ints_inv {μ : Img} : ∀ {zs : List Int} {xs : List Value}, VRL μ (zs.map fun n => AV.int .i64 n) xs → xs = zs.map (Value.int .i64)
  | [], xs, h => h.nil_inv
  | z :: zs, xs, h => by
    obtain ⟨x, r, rfl, h1, h2⟩ := h.cons_inv
    rw [h1.int_inv, VRL.ints_inv h2]; rfl

def clG (args : List AV) (h : AH) : Rs :=
  match args with
  | [.nils] => some (.nils, h)
  | [.lst _ 1 n cs] => if n = 0 then some (.lst false 1 0 [], h) else if (intL cs).isSome = true ∧ n * 8 ≤ 140737488355328 then some (.lst false 1 n cs, h) else none
  | _ => none

theorem frz_new {P : Program} {B : BS P} {μ : Img} {h : AH} {w w' : World} (hr : HR B μ h w.heap) (hB : BelowS (· < w.heap.size) w w') :
    ∃ μ' : Img, μ.le μ' ∧ (∀ cb, w.heap.size ≤ cb → ∀ arr, fzAll w' cb = some arr → μ'.fz cb = some arr) ∧ HR B μ' h w'.heap := by
  obtain ⟨μ', hμ'⟩ : ∃ μ' : Img, μ' = ⟨μ.m, fun cb => match μ.fz cb with | some a => some a | none => if w.heap.size ≤ cb then fzAll w' cb else none, μ.old, μ.res⟩ := ⟨_, rfl⟩
  have hnone : ∀ cb, w.heap.size ≤ cb → μ.fz cb = none := by
    intro cb hcb
    cases hm : μ.fz cb with
    | none => rfl
    | some a => exact absurd (hr.frz_lt hm) (by omega)
  have hle : μ.le μ' := by
    rw [hμ']
    refine ⟨fun _ _ h => h, fun cb arr hf => by simp only [hf], rfl, fun cb arr hf => ?_, rfl⟩
    simp only at hf
    split at hf
    · rename_i a ha; cases hf; exact .inl ha
    · split at hf
      · rename_i hcb; exact .inr fun ho => absurd (hr.old cb ho) (by omega)
      · cases hf
  have hnew : ∀ cb, w.heap.size ≤ cb → ∀ arr, fzAll w' cb = some arr → μ'.fz cb = some arr := by
    intro cb hcb arr ha
    rw [hμ']
    simp only [hnone cb hcb, if_pos hcb, ha]
  have hr2 := hr.below hB
  refine ⟨μ', hle, hnew, ?_⟩
  refine ⟨fun b x hb => hr2.dom b x (by rw [hμ'] at hb; exact hb), fun b x hb => ⟨(hr2.blk b x hb).1, (hr2.blk b x hb).2.keep hle fun _ _ _ _ => rfl⟩, fun b b' x x' y y' hne h1 h2 h3 h4 h5 h6 => ?_, hr2.base, ?_, ?_, fun b hb => by rw [hμ'] at hb ⊢; exact hr2.res b hb, fun k arr hk => hle.fz _ _ (hr2.tab k arr hk)⟩
  · rw [hμ'] at h5 h6; exact hr2.inj b b' x x' y y' hne h1 h2 h3 h4 h5 h6
  · intro cb arr hf
    rw [hμ'] at hf
    simp only at hf
    split at hf
    · rename_i a ha
      cases hf
      obtain ⟨q1, q2⟩ := hr2.frz cb arr ha
      exact ⟨q1, fun b x y hb hl hm => q2 b x y hb hl (by rw [hμ'] at hm; exact hm)⟩
    · split at hf
      · rename_i hcb
        refine ⟨fzAll_some hf, fun b x y hb hl hm => ?_⟩
        rw [hμ'] at hm
        have := (hr.dom b y hm).2
        omega
      · cases hf
  · intro k hk; rw [hμ'] at hk; exact hr2.old k hk

theorem cl_agree {P : Program} {F : Nat → Option FI} (hF : FAgree P F) {I : Nat → Option (List AV → AH → Rs)} (hI : IAgree P I) {f : Nat} (fi : FI) (hFf : F f = some fi) {te : TypeId}
    (c0 : ∀ (n c : Nat) (w : World), Calls P f #[.slice none n c] w fun e w' => e = .returned (.slice none 0 0) ∧ w' = w)
    (c1 : ∀ (a : Addr) (c : Nat) (w : World), Calls P f #[.slice (some a) 0 c] w fun e w' => ∃ v', e = .returned v' ∧ w'.ownsRow w.heap.size te 1 v' 0 [] ∧ v' ≠ .slice none 0 0 ∧ Below w.heap.size w w')
    (c2 : ∀ (b off n c : Nat) (zs : List Int) (w : World), n ≤ zs.length → n * 8 ≤ 140737488355328 → (∀ j, j < zs.length → w.cell? ⟨b, off + j, none⟩ = some (.int .i64 (zs.getD j 0))) →
      Calls P f #[.slice (some ⟨b, off, none⟩) n c] w fun e w' => ∃ v', e = .returned v' ∧ w'.ownsRow w.heap.size te 1 v' n ((zs.take n).map (Value.int .i64)) ∧ v' ≠ .slice none 0 0 ∧ Below w.heap.size w w') : IAgree P (addI I f clG) := by
  refine addI_agree hI ?_ ?_
  · obtain ⟨fn, hfn, hbody, _, _, hname, _⟩ := hF.fn f fi hFf
    have hname' : ¬ fn.name = "runtime.NumGoroutine" := by simpa using hname
    exact fun as w => by simp [callFunc, hfn, hname', hbody]
  · intro args h v h' hgv B μ vs w hvs hr
    unfold clG at hgv
    split at hgv
    · cases hgv
      obtain ⟨x, r1, rfl, h1, h2⟩ := hvs.cons_inv
      rw [h2.nil_inv]
      rw [VR] at h1
      subst h1
      refine (c0 0 0 w).mono ?_
      rintro e w' ⟨rfl, rfl⟩
      have hB : BelowS (· < w'.heap.size) w' w' := BelowS.refl _ _
      exact ⟨_, rfl, μ, Img.le.refl _, by rw [VR], hr, hB.mono hr.base⟩
    · rename_i ex n cs
      obtain ⟨x, r1, rfl, h1, h2⟩ := hvs.cons_inv
      rw [h2.nil_inv]
      rw [VR] at h1
      obtain ⟨a, c, rfl, hnc, _, hcl, han, hpos⟩ := h1
      split at hgv
      · rename_i hn
        cases hgv
        subst hn
        cases a with
        | none =>
          refine (c0 0 c w).mono ?_
          rintro e w' ⟨rfl, rfl⟩
          have hB : BelowS (· < w'.heap.size) w' w' := BelowS.refl _ _
          refine ⟨_, rfl, μ, Img.le.refl _, ?_, hr, hB.mono hr.base⟩
          rw [VR]
          exact ⟨none, 0, rfl, Nat.le_refl _, by simp, rfl, fun _ => ⟨rfl, rfl⟩, fun h => absurd h (by simp)⟩
        | some a =>
          refine (c1 a c w).mono ?_
          rintro e w' ⟨v', rfl, ⟨_, ho⟩, hne, hb⟩
          have hB : BelowS (· < w.heap.size) w w' := ⟨hb.os, hb.tape, hb.output, hb.size, hb.block⟩
          rcases ho with ⟨rfl, _⟩ | ⟨g, cap, cur, rfl, _⟩
          · exact absurd rfl hne
          refine ⟨_, rfl, μ, Img.le.refl _, ?_, hr.below hB, hB.mono hr.base⟩
          rw [VR]
          exact ⟨_, cap, rfl, Nat.zero_le _, by simp, rfl, fun h => (by cases h), fun h => absurd h (by simp)⟩
      · rename_i hn
        split at hgv
        · rename_i hq
          cases hgv
          obtain ⟨zs, hzs⟩ := Option.isSome_iff_exists.1 hq.1
          have hcs := intL_spec hzs
          have hzl : zs.length = n := by have := congrArg List.length hcs; rw [List.length_map] at this; omega
          obtain ⟨cb, off, arr, rfl, hfz, hoff, hv⟩ := hpos (by omega)
          rw [hcs] at hv
          have hxs := hv.ints_inv
          obtain ⟨⟨el, fz, hc⟩, _⟩ := hr.frz cb arr hfz
          refine (c2 cb off n c zs w (by omega) hq.2 fun j hj => ?_).mono ?_
          · have h3 := congrArg (fun l => l[j]?) hxs
            simp only [List.getElem?_take, List.getElem?_drop, List.getElem?_map, List.getElem?_eq_getElem hj, Option.map_some] at h3
            rw [if_pos (by omega)] at h3
            unfold World.cell?
            simp only [hc]
            rw [Array.getElem?_toList] at h3
            simp [h3, List.getD, List.getElem?_eq_getElem hj]
          · rintro e w' ⟨v', rfl, ⟨hol, ho⟩, hne, hb⟩
            have hB : BelowS (· < w.heap.size) w w' := ⟨hb.os, hb.tape, hb.output, hb.size, hb.block⟩
            rcases ho with ⟨rfl, _⟩ | ⟨g, cap, cur, rfl, hg, hcell, hncap, _, hsz, htk⟩
            · exact absurd rfl hne
            obtain ⟨μ', hle, hnew, hr'⟩ := frz_new hr hB
            refine ⟨_, rfl, μ', hle, ?_, hr', hB.mono hr.base⟩
            rw [VR]
            refine ⟨_, cap, rfl, hncap, by simp, by omega, fun h => (by cases h), fun _ => ⟨g, 0, cur, rfl, hnew g hg cur (fzAll_of hcell), by omega, ?_⟩⟩
            rw [List.drop_zero, htk, hcs, List.take_of_length_le (by omega)]
            exact VRL.ints zs
        · cases hgv
    · cases hgv
end Go.AM
