/- Functions that read memory, and whose answer lies in memory of its own: the answer is a value. Own work. -/
import Derived.Test.YtplanafgphadaaaAmInt
namespace Go.AM
open Go Go.RowKit
set_option linter.unusedVariables false
set_option linter.unusedSimpArgs false

/-- What a value reads as, where all its memory is the call's own. -/
def frzN : Nat → AH → AV → Option AV
  | 0, _, _ => none
  | k + 1, h, v => match v with
    | .sl b o len cap sz ex => match h.get b with
      | some (.cells cs kd) => match (match kd with | .ro => false | _ => true) with
        | true => if o + len * sz ≤ cs.length then (frzMap (frzN k h) ((cs.drop o).take (len * sz))).map (.lst (ex && Nat.beq cap len) sz len) else none
        | false => none
      | _ => none
    | .ptr b o => match h.get b with
      | some (.cells cs kd) => match (match kd with | .ro => false | _ => true) with
        | true => if o ≤ cs.length then (frzMap (frzN k h) (cs.drop o)).map .fp else none
        | false => none
      | _ => none
    | .agg cs => (frzMap (frzN k h) cs).map .agg
    | .tup cs => (frzMap (frzN k h) cs).map .tup
    | v => bif v.scal then some v else none

/-- What is read so goes on so. -/
theorem frzN_sim {μ μ' : Img} {h : AH} (hblk : ∀ b cs kd, h.get b = some (.cells cs kd) → kd ≠ .ro → ∃ cb δ N arr, μ b = some (cb, δ, N) ∧ μ'.fz cb = some arr ∧ CellsR μ cs arr δ) : ∀ (k : Nat) (v v' : AV) (x : Value), frzN k h v = some v' → VR μ v x → VR μ' v' x
  | 0, v, v', x, hf, _ => by simp [frzN] at hf
  | k + 1, v, v', x, hf, hv => by
    have lst : ∀ {as bs : List AV} {xs : List Value}, frzMap (frzN k h) as = some bs → VRL μ as xs → VRL μ' bs xs := by
      intro as bs xs hm hx
      obtain ⟨h1, h2⟩ := frzMap_get hm
      have hl := hx.length
      refine VRL.of_get (by omega) fun j b hj => ?_
      obtain ⟨a, ha, hfa⟩ := h2 j b hj
      obtain ⟨y, hy, hvy⟩ := hx.get ha
      exact ⟨y, hy, frzN_sim hblk k a b y hfa hvy⟩
    simp only [frzN] at hf
    split at hf
    · rename_i b o len cap sz ex
      split at hf
      · rename_i cs kd hb
        split at hf
        · rename_i hkd
          split at hf
          · rename_i hle
            simp only [Option.map_eq_some_iff] at hf
            obtain ⟨bs, hbs, rfl⟩ := hf
            obtain ⟨cb, δ, N, arr, hm, hfzb, hcr⟩ := hblk b cs kd hb (by cases kd <;> simp at hkd ⊢)
            obtain ⟨cb', δ', N', a, c, hm', rfl, hor, hlc, hcc, hex⟩ := hv.sl_inv
            rw [hm] at hm'; cases hm'
            obtain ⟨h1, h2⟩ := frzMap_get hbs
            have hcl := hcr.len
            have hbl : bs.length = len * sz := by rw [← h1]; simp; omega
            rw [VR]
            refine ⟨some a, c, rfl, by omega, ?_, hbl, by simp, fun hpos => ?_⟩
            · intro h3
              simp only [Bool.and_eq_true] at h3
              have h4 := Nat.eq_of_beq_eq_true h3.2
              have := hex h3.1
              omega
            · have hc0 : c ≠ 0 := by omega
              rcases hor with h0 | ⟨ha, _⟩
              · exact absurd h0 hc0
              · refine ⟨cb, δ + o, arr, by rw [ha], hfzb, by omega, ?_⟩
                refine VRL.of_get (by simp; omega) fun j y hj => ?_
                obtain ⟨z, hz, hfz'⟩ := h2 j y hj
                rw [List.getElem?_take] at hz ⊢
                split at hz
                · rename_i hjl
                  rw [if_pos hjl]
                  rw [List.getElem?_drop] at hz ⊢
                  obtain ⟨u, hu, hur⟩ := hcr.rel _ _ hz
                  refine ⟨u, by rw [← Nat.add_assoc] at hu; simpa using hu, frzN_sim hblk k z y u hfz' hur⟩
                · cases hz
          · cases hf
        · cases hf
      · cases hf
    · rename_i b o
      split at hf
      · rename_i cs kd hb
        split at hf
        · rename_i hkd
          split at hf
          · rename_i hle
            simp only [Option.map_eq_some_iff] at hf
            obtain ⟨bs, hbs, rfl⟩ := hf
            obtain ⟨cb, δ, N, arr, hm, hfzb, hcr⟩ := hblk b cs kd hb (by cases kd <;> simp at hkd ⊢)
            obtain ⟨cb', δ', N', hm', rfl⟩ := hv.ptr_inv
            rw [hm] at hm'; cases hm'
            obtain ⟨h1, h2⟩ := frzMap_get hbs
            have hcl := hcr.len
            have hbl : bs.length = cs.length - o := by rw [← h1]; simp
            rw [VR]
            refine ⟨cb, δ + o, arr, rfl, hfzb, by omega, ?_⟩
            refine VRL.of_get (by simp; omega) fun j y hj => ?_
            have hjl : j < bs.length := (List.getElem?_eq_some_iff.1 hj).1
            obtain ⟨z, hz, hfz'⟩ := h2 j y hj
            rw [List.getElem?_take, if_pos hjl]
            rw [List.getElem?_drop] at hz ⊢
            obtain ⟨u, hu, hur⟩ := hcr.rel _ _ hz
            exact ⟨u, by rw [← Nat.add_assoc] at hu; simpa using hu, frzN_sim hblk k z y u hfz' hur⟩
          · cases hf
        · cases hf
      · cases hf
    · simp only [Option.map_eq_some_iff] at hf
      obtain ⟨bs, hbs, rfl⟩ := hf
      obtain ⟨xs, rfl, hx⟩ := hv.agg_inv
      exact VR.mk_agg (lst hbs hx)
    · simp only [Option.map_eq_some_iff] at hf
      obtain ⟨bs, hbs, rfl⟩ := hf
      obtain ⟨xs, rfl, hx⟩ := hv.tup_inv
      exact VR.mk_tup (lst hbs hx)
    · cases hx : v.scal with
      | true => simp [hx] at hf; subst hf; exact hv.scal hx
      | false => simp [hx] at hf


/-- A function of what it reads: the answer is new. -/
def pureN (g : List AV → Option AV) (args : List AV) (h : AH) : Rs :=
  match frzMap (frzF true 9 h) args with
  | some as => (g as).map (·, h)
  | none => none

section
variable {P : Program} {F : Nat → Option FI} {I : Nat → Option (List AV → AH → Rs)} {T : TT} (hT : TAgree P T) (hmix : P.follows .mixedOrders = true) (hF : FAgree P F) (hI : IAgree P I)
include hT hmix hF hI in
theorem pureN_agree {f : Nat} {g : List AV → Option AV} (hfY : Nat.beq f YLD = false) (fi : FI) (hFf : F f = some fi)
    (hg : ∀ (args : List AV) (v : AV), g args = some v → flatL args = true → ∃ args' n k h1 v1 v0, WkL args args' ∧ call F I T n f args' ⟨0, .leaf⟩ = some (v1, h1) ∧ frzN k h1 v1 = some v0 ∧ Wk v0 v) :
    IAgree P (addI I f (pureN g)) := by
  refine addI_agree hI ?_ ?_
  · obtain ⟨fn, hfn, hbody, _, _, hname, _⟩ := hF.fn f fi hFf
    have hname' : ¬ fn.name = "runtime.NumGoroutine" := by simpa using hname
    exact fun as w => by simp [callFunc, hfn, hname', hbody]
  · intro args h v h' hgv B μ vs w hvs hr
    unfold pureN at hgv
    split at hgv
    case h_2 => cases hgv
    rename_i as has
    simp only [Option.map_eq_some_iff, Prod.mk.injEq] at hgv
    obtain ⟨v2, hv2, rfl, rfl⟩ := hgv
    have hfl : flatL as = true := by
      obtain ⟨_, h2⟩ := frzMap_get has
      refine flatL_get fun j b hj => ?_
      obtain ⟨a, _, ha⟩ := h2 j b hj
      exact frzF_flat _ _ _ ha
    obtain ⟨args', n, k, h1, v1, v0, hwa, hc, hfr, hwv⟩ := hg as v2 hv2 hfl
    have hr0 := HR.values (P := P) w (fzAll w) (fun cb arr hf => fzAll_some hf) (fun k arr hk => let ⟨⟨_, _, hc⟩, _⟩ := hr.frz k arr (hr.tab k arr hk); fzAll_of hc)
    have hfz0 : ∀ cb arr, μ.fz cb = some arr → fzAll w cb = some arr := fun cb arr hf => by
      obtain ⟨el, f, hcell⟩ := (hr.frz cb arr hf).1
      exact fzAll_of hcell
    have hvs0 : VRL ⟨fun _ => none, fzAll w, (· < w.heap.size), fun _ => False⟩ as vs := by
      refine frzL_sim (μ := μ) (h := h) (al := true) (k := 9) ?_ hfz0 has hvs
      intro b cs kd hb _
      obtain ⟨_, cb, δ, N, arr, el, fz, g1, g2, g3, _⟩ := hr.blk b _ hb
      exact ⟨cb, δ, N, arr, g1, fzAll_of g2, g3⟩
    refine ((((call_sim hT hmix hF hI ⟨(· < w.heap.size)⟩ n) f args' _ v1 h1 hc).1 hfY).2 _ w vs (hwa _ _ hvs0) hr0).mono ?_
    rintro e w' ⟨v', rfl, μ1, hμ1, hv', hr1, hB⟩
    obtain ⟨μ', hμ'⟩ : ∃ μ' : Img, μ' = ⟨μ.m, fun cb => match μ.fz cb with | some a => some a | none => if w.heap.size ≤ cb then fzAll w' cb else none, μ.old, μ.res⟩ := ⟨_, rfl⟩
    have hnone : ∀ cb, w.heap.size ≤ cb → μ.fz cb = none := by
      intro cb hcb
      cases hm : μ.fz cb with
      | none => rfl
      | some a => exact absurd (hr.frz_lt hm) (by omega)
    have hle : μ.le μ' := by
      rw [hμ']
      refine ⟨fun _ _ h => h, fun cb arr hf => by simp only [hf], rfl, fun cb arr hf => ?_, rfl⟩
      simp only at hf
      split at hf
      · rename_i a ha; cases hf; exact .inl ha
      · split at hf
        · rename_i hcb; exact .inr fun ho => absurd (hr.old cb ho) (by omega)
        · cases hf
    have hnew : ∀ cb, w.heap.size ≤ cb → ∀ arr, fzAll w' cb = some arr → μ'.fz cb = some arr := by
      intro cb hcb arr ha
      rw [hμ']
      simp only [hnone cb hcb, if_pos hcb, ha]
    have hsim : VR μ' v2 v' := by
      refine hwv _ _ (frzN_sim (μ := μ1) (h := h1) ?_ k v1 v0 v' hfr hv')
      intro b cs kd hb hk
      obtain ⟨_, cb, δ, N, arr, el, fz, g1, g2, g3, g4, g5⟩ := hr1.blk b _ hb
      exact ⟨cb, δ, N, arr, g1, hnew cb (Nat.le_of_not_lt (g5 hk).1) arr (fzAll_of g2), g3⟩
    have hr2 := hr.below hB
    refine ⟨v', rfl, μ', hle, hsim, ?_, hB.mono hr.base⟩
    refine ⟨fun b x hb => hr2.dom b x (by rw [hμ'] at hb; exact hb), fun b x hb => ⟨(hr2.blk b x hb).1, (hr2.blk b x hb).2.keep hle fun _ _ _ _ => rfl⟩, fun b b' x x' y y' hne h1 h2 h3 h4 h5 h6 => ?_, hr2.base, ?_, ?_, fun b hb => by rw [hμ'] at hb ⊢; exact hr2.res b hb, fun k arr hk => hle.fz _ _ (hr2.tab k arr hk)⟩
    · rw [hμ'] at h5 h6; exact hr2.inj b b' x x' y y' hne h1 h2 h3 h4 h5 h6
    · intro cb arr hf
      rw [hμ'] at hf
      simp only at hf
      split at hf
      · rename_i a ha
        cases hf
        obtain ⟨q1, q2⟩ := hr2.frz cb arr ha
        exact ⟨q1, fun b x y hb hl hm => q2 b x y hb hl (by rw [hμ'] at hm; exact hm)⟩
      · split at hf
        · rename_i hcb
          refine ⟨fzAll_some hf, fun b x y hb hl hm => ?_⟩
          rw [hμ'] at hm
          have := (hr.dom b y hm).2
          omega
        · cases hf
    · intro k hk; rw [hμ'] at hk; exact hr2.old k hk
end
end Go.AM
