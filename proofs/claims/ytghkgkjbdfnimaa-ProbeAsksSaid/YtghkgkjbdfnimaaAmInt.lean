/- Functions that are taken by what they do: how a run of the abstract machine makes one. Own work. -/
import Derived.Test.YtghkgkjbdfnimaaAmTab
namespace Go.AM
open Go Go.RowKit
set_option linter.unusedVariables false
set_option linter.unusedSimpArgs false

mutual
/-- A value that names no memory that may turn. -/
def AV.flat : AV → Bool
  | .ptr _ _ | .sl .. | .mp _ | .yld _ => false
  | .fn _ as bs => flatL as && flatL bs
  | .agg as => flatL as
  | .tup as => flatL as
  | .lst _ _ _ cs => flatL cs
  | .fp cs => flatL cs
  | _ => true
def flatL : List AV → Bool
  | [] => true
  | a :: as => a.flat && flatL as
end

mutual
theorem VR.flat {μ μ' : Img} (hfz : ∀ cb arr, μ.fz cb = some arr → μ'.fz cb = some arr) : ∀ {a : AV} {v : Value}, a.flat = true → VR μ a v → VR μ' a v
  | .bad, _, _, _ => trivial
  | .bool _, _, _, h => h
  | .int _ _, _, _, h => h
  | .str _, _, _, h => h
  | .nilp, _, _, h => h
  | .ptr _ _, _, hf, _ => by simp [AV.flat] at hf
  | .nils, _, _, h => h
  | .sl .., _, hf, _ => by simp [AV.flat] at hf
  | .nilm, _, _, h => h
  | .mp _, _, hf, _ => by simp [AV.flat] at hf
  | .nilf, _, _, h => h
  | .fn _ _ _, _, hf, ⟨fs, cs, e, h1, h2⟩ => by
    simp only [AV.flat, Bool.and_eq_true] at hf
    exact ⟨fs, cs, e, VRL.flat hfz hf.1 h1, VRL.flat hfz hf.2 h2⟩
  | .agg _, _, hf, ⟨vs, e, h⟩ => ⟨vs, e, VRL.flat hfz (by simpa only [AV.flat] using hf) h⟩
  | .tup _, _, hf, ⟨vs, e, h⟩ => ⟨vs, e, VRL.flat hfz (by simpa only [AV.flat] using hf) h⟩
  | .yld _, _, hf, _ => by simp [AV.flat] at hf
  | .lst .., _, hf, ⟨a, c, h1, h2, h3, h4, h5, h6⟩ => ⟨a, c, h1, h2, h3, h4, h5, fun hn => let ⟨cb, off, arr, g1, g2, g3, g4⟩ := h6 hn; ⟨cb, off, arr, g1, hfz _ _ g2, g3, VRL.flat hfz (by simpa only [AV.flat] using hf) g4⟩⟩
  | .fp _, _, hf, ⟨cb, off, arr, g1, g2, g3, g4⟩ => ⟨cb, off, arr, g1, hfz _ _ g2, g3, VRL.flat hfz (by simpa only [AV.flat] using hf) g4⟩
  | .mark _, _, _, _ => trivial
theorem VRL.flat {μ μ' : Img} (hfz : ∀ cb arr, μ.fz cb = some arr → μ'.fz cb = some arr) : ∀ {as : List AV} {vs : List Value}, flatL as = true → VRL μ as vs → VRL μ' as vs
  | [], _, _, h => h
  | _ :: _, _, hf, ⟨v, rest, e, h, hr⟩ => by
    simp only [flatL, Bool.and_eq_true] at hf
    exact ⟨v, rest, e, VR.flat hfz hf.1 h, VRL.flat hfz hf.2 hr⟩
end

mutual
/-- A value that names no memory at all. -/
def AV.scal : AV → Bool
  | .bool _ | .int _ _ | .str _ | .nilp | .nils | .nilm | .nilf => true
  | .tup as => scalL as
  | .agg as => scalL as
  | _ => false
def scalL : List AV → Bool
  | [] => true
  | a :: as => a.scal && scalL as
end

mutual
theorem VR.scal {μ μ' : Img} : ∀ {a : AV} {v : Value}, a.scal = true → VR μ a v → VR μ' a v
  | .bad, _, hs, _ => by simp [AV.scal] at hs
  | .bool _, _, _, h => h
  | .int _ _, _, _, h => h
  | .str _, _, _, h => h
  | .nilp, _, _, h => h
  | .ptr _ _, _, hf, _ => by simp [AV.scal] at hf
  | .nils, _, _, h => h
  | .sl .., _, hf, _ => by simp [AV.scal] at hf
  | .nilm, _, _, h => h
  | .mp _, _, hf, _ => by simp [AV.scal] at hf
  | .nilf, _, _, h => h
  | .fn _ _ _, _, hf, _ => by simp [AV.scal] at hf
  | .agg _, _, hf, ⟨vs, e, h⟩ => ⟨vs, e, VRL.scal (by simpa only [AV.scal] using hf) h⟩
  | .tup _, _, hf, ⟨vs, e, h⟩ => ⟨vs, e, VRL.scal (by simpa only [AV.scal] using hf) h⟩
  | .yld _, _, hf, _ => by simp [AV.scal] at hf
  | .lst .., _, hf, _ => by simp [AV.scal] at hf
  | .fp _, _, hf, _ => by simp [AV.scal] at hf
  | .mark _, _, hf, _ => by simp [AV.scal] at hf
theorem VRL.scal {μ μ' : Img} : ∀ {as : List AV} {vs : List Value}, scalL as = true → VRL μ as vs → VRL μ' as vs
  | [], _, _, h => h
  | _ :: _, _, hf, ⟨v, rest, e, h, hr⟩ => by
    simp only [scalL, Bool.and_eq_true] at hf
    exact ⟨v, rest, e, VR.scal hf.1 h, VRL.scal hf.2 hr⟩
end

def frzMap (f : AV → Option AV) : List AV → Option (List AV)
  | [] => some []
  | a :: as => match f a with
    | some b => (frzMap f as).map (b :: ·)
    | none => none

/-- What a value reads as. 'al': whatever is read. -/
def frzF (al : Bool) : Nat → AH → AV → Option AV
  | 0, _, _ => none
  | k + 1, h, v => match v with
    | .sl b o len cap sz ex => match h.get b with
      | some (.cells cs kd) => match (al || (match kd with | .ro => false | _ => true)) with
        | true => if o + len * sz ≤ cs.length then (frzMap (frzF al k h) ((cs.drop o).take (len * sz))).map (.lst (ex && Nat.beq cap len) sz len) else none
        | false => none
      | _ => none
    | .ptr b o => match h.get b with
      | some (.cells cs kd) => match (al || (match kd with | .ro => false | _ => true)) with
        | true => if o ≤ cs.length then (frzMap (frzF al k h) (cs.drop o)).map .fp else none
        | false => none
      | _ => none
    | .fn f as bs => match frzMap (frzF al k h) as, frzMap (frzF al k h) bs with
      | some as', some bs' => some (.fn f as' bs')
      | _, _ => none
    | .agg cs => (frzMap (frzF al k h) cs).map .agg
    | .tup cs => (frzMap (frzF al k h) cs).map .tup
    | v => bif v.flat then some v else none

theorem frzMap_get {f : AV → Option AV} : ∀ {as bs : List AV}, frzMap f as = some bs → as.length = bs.length ∧ ∀ (j : Nat) (b : AV), bs[j]? = some b → ∃ a, as[j]? = some a ∧ f a = some b
  | [], bs, h => by
    simp only [frzMap, Option.some.injEq] at h
    subst h
    exact ⟨rfl, fun j b hj => by simp at hj⟩
  | a :: as, bs, h => by
    simp only [frzMap] at h
    split at h
    · rename_i b hb
      simp only [Option.map_eq_some_iff] at h
      obtain ⟨cs, hcs, rfl⟩ := h
      obtain ⟨h1, h2⟩ := frzMap_get hcs
      refine ⟨by simp [h1], fun j x hj => ?_⟩
      cases j with
      | zero => simp at hj; subst hj; exact ⟨a, rfl, hb⟩
      | succ j => simp at hj; obtain ⟨y, hy, hf⟩ := h2 j x hj; exact ⟨y, by simpa using hy, hf⟩
    · cases h

theorem frzMap_same {f : AV → Option AV} : ∀ {as : List AV}, (∀ a ∈ as, f a = some a) → frzMap f as = some as
  | [], _ => rfl
  | a :: as, h => by
    simp only [frzMap, h a (by simp)]
    rw [frzMap_same fun b hb => h b (by simp [hb])]
    rfl

theorem flatL_get : ∀ {bs : List AV}, (∀ (j : Nat) (b : AV), bs[j]? = some b → b.flat = true) → flatL bs = true
  | [], _ => rfl
  | b :: bs, h => by
    simp only [flatL, Bool.and_eq_true]
    exact ⟨h 0 b rfl, flatL_get fun j c hj => h (j + 1) c (by simpa using hj)⟩

theorem flatL_mem {bs : List AV} (h : ∀ b ∈ bs, b.flat = true) : flatL bs = true :=
  flatL_get fun j b hj => h b (List.mem_of_getElem? hj)

theorem frzF_flat {al : Bool} {h : AH} : ∀ (k : Nat) (v v' : AV), frzF al k h v = some v' → v'.flat = true
  | 0, v, v', hf => by simp [frzF] at hf
  | k + 1, v, v', hf => by
    have lst : ∀ {as bs : List AV}, frzMap (frzF al k h) as = some bs → flatL bs = true := by
      intro as bs hm
      obtain ⟨_, h2⟩ := frzMap_get hm
      refine flatL_get fun j b hj => ?_
      obtain ⟨a, _, ha⟩ := h2 j b hj
      exact frzF_flat k a b ha
    simp only [frzF] at hf
    split at hf
    · split at hf
      · split at hf
        · split at hf
          · simp only [Option.map_eq_some_iff] at hf
            obtain ⟨bs, hbs, rfl⟩ := hf
            simp only [AV.flat]; exact lst hbs
          · cases hf
        · cases hf
      · cases hf
    · split at hf
      · split at hf
        · split at hf
          · simp only [Option.map_eq_some_iff] at hf
            obtain ⟨bs, hbs, rfl⟩ := hf
            simp only [AV.flat]; exact lst hbs
          · cases hf
        · cases hf
      · cases hf
    · split at hf
      · rename_i ha hb
        cases hf
        simp only [AV.flat, Bool.and_eq_true]; exact ⟨lst ha, lst hb⟩
      · cases hf
    · simp only [Option.map_eq_some_iff] at hf
      obtain ⟨bs, hbs, rfl⟩ := hf
      simp only [AV.flat]; exact lst hbs
    · simp only [Option.map_eq_some_iff] at hf
      obtain ⟨bs, hbs, rfl⟩ := hf
      simp only [AV.flat]; exact lst hbs
    · rename_i x _ _ _ _ _
      cases hx : v.flat with
      | true => simp [hx] at hf; subst hf; exact hx
      | false => simp [hx] at hf

/-- What is read so goes on so. -/
theorem frzF_sim {al : Bool} {μ μ' : Img} {h : AH} (hblk : ∀ b cs kd, h.get b = some (.cells cs kd) → (al = true ∨ kd ≠ .ro) → ∃ cb δ N arr, μ b = some (cb, δ, N) ∧ μ'.fz cb = some arr ∧ CellsR μ cs arr δ)
    (hfz : ∀ cb arr, μ.fz cb = some arr → μ'.fz cb = some arr) : ∀ (k : Nat) (v v' : AV) (x : Value), frzF al k h v = some v' → VR μ v x → VR μ' v' x
  | 0, v, v', x, hf, _ => by simp [frzF] at hf
  | k + 1, v, v', x, hf, hv => by
    have lst : ∀ {as bs : List AV} {xs : List Value}, frzMap (frzF al k h) as = some bs → VRL μ as xs → VRL μ' bs xs := by
      intro as bs xs hm hx
      obtain ⟨h1, h2⟩ := frzMap_get hm
      have hl := hx.length
      refine VRL.of_get (by omega) fun j b hj => ?_
      obtain ⟨a, ha, hfa⟩ := h2 j b hj
      obtain ⟨y, hy, hvy⟩ := hx.get ha
      exact ⟨y, hy, frzF_sim hblk hfz k a b y hfa hvy⟩
    simp only [frzF] at hf
    split at hf
    · rename_i b o len cap sz ex
      split at hf
      · rename_i cs kd hb
        split at hf
        · rename_i hkd
          split at hf
          · rename_i hle
            simp only [Option.map_eq_some_iff] at hf
            obtain ⟨bs, hbs, rfl⟩ := hf
            obtain ⟨cb, δ, N, arr, hm, hfzb, hcr⟩ := hblk b cs kd hb (by
              cases al with
              | true => exact .inl rfl
              | false => cases kd <;> simp at hkd ⊢)
            obtain ⟨cb', δ', N', a, c, hm', rfl, hor, hlc, hcc, hex⟩ := hv.sl_inv
            rw [hm] at hm'; cases hm'
            obtain ⟨h1, h2⟩ := frzMap_get hbs
            have hcl := hcr.len
            have hbl : bs.length = len * sz := by rw [← h1]; simp; omega
            rw [VR]
            refine ⟨some a, c, rfl, by omega, ?_, hbl, by simp, fun hpos => ?_⟩
            · intro h3
              simp only [Bool.and_eq_true] at h3
              have h4 := Nat.eq_of_beq_eq_true h3.2
              have := hex h3.1
              omega
            · have hc0 : c ≠ 0 := by omega
              rcases hor with h0 | ⟨ha, _⟩
              · exact absurd h0 hc0
              · refine ⟨cb, δ + o, arr, by rw [ha], hfzb, by omega, ?_⟩
                refine VRL.of_get (by simp; omega) fun j y hj => ?_
                obtain ⟨z, hz, hfz'⟩ := h2 j y hj
                rw [List.getElem?_take] at hz ⊢
                split at hz
                · rename_i hjl
                  rw [if_pos hjl]
                  rw [List.getElem?_drop] at hz ⊢
                  obtain ⟨u, hu, hur⟩ := hcr.rel _ _ hz
                  refine ⟨u, by rw [← Nat.add_assoc] at hu; simpa using hu, frzF_sim hblk hfz k z y u hfz' hur⟩
                · cases hz
          · cases hf
        · cases hf
      · cases hf
    · rename_i b o
      split at hf
      · rename_i cs kd hb
        split at hf
        · rename_i hkd
          split at hf
          · rename_i hle
            simp only [Option.map_eq_some_iff] at hf
            obtain ⟨bs, hbs, rfl⟩ := hf
            obtain ⟨cb, δ, N, arr, hm, hfzb, hcr⟩ := hblk b cs kd hb (by
              cases al with
              | true => exact .inl rfl
              | false => cases kd <;> simp at hkd ⊢)
            obtain ⟨cb', δ', N', hm', rfl⟩ := hv.ptr_inv
            rw [hm] at hm'; cases hm'
            obtain ⟨h1, h2⟩ := frzMap_get hbs
            have hcl := hcr.len
            have hbl : bs.length = cs.length - o := by rw [← h1]; simp
            rw [VR]
            refine ⟨cb, δ + o, arr, rfl, hfzb, by omega, ?_⟩
            refine VRL.of_get (by simp; omega) fun j y hj => ?_
            have hjl : j < bs.length := (List.getElem?_eq_some_iff.1 hj).1
            obtain ⟨z, hz, hfz'⟩ := h2 j y hj
            rw [List.getElem?_take, if_pos hjl]
            rw [List.getElem?_drop] at hz ⊢
            obtain ⟨u, hu, hur⟩ := hcr.rel _ _ hz
            exact ⟨u, by rw [← Nat.add_assoc] at hu; simpa using hu, frzF_sim hblk hfz k z y u hfz' hur⟩
          · cases hf
        · cases hf
      · cases hf
    · split at hf
      · rename_i ha hb
        cases hf
        obtain ⟨fs, cs, rfl, h1, h2⟩ := hv.fn_inv
        rw [VR]
        exact ⟨fs, cs, rfl, lst ha h1, lst hb h2⟩
      · cases hf
    · simp only [Option.map_eq_some_iff] at hf
      obtain ⟨bs, hbs, rfl⟩ := hf
      obtain ⟨xs, rfl, hx⟩ := hv.agg_inv
      exact VR.mk_agg (lst hbs hx)
    · simp only [Option.map_eq_some_iff] at hf
      obtain ⟨bs, hbs, rfl⟩ := hf
      obtain ⟨xs, rfl, hx⟩ := hv.tup_inv
      exact VR.mk_tup (lst hbs hx)
    · cases hx : v.flat with
      | true => simp [hx] at hf; subst hf; exact hv.flat hfz hx
      | false => simp [hx] at hf

theorem frzL_sim {al : Bool} {k : Nat} {μ μ' : Img} {h : AH} (hblk : ∀ b cs kd, h.get b = some (.cells cs kd) → (al = true ∨ kd ≠ .ro) → ∃ cb δ N arr, μ b = some (cb, δ, N) ∧ μ'.fz cb = some arr ∧ CellsR μ cs arr δ)
    (hfz : ∀ cb arr, μ.fz cb = some arr → μ'.fz cb = some arr) {as bs : List AV} {xs : List Value} (hm : frzMap (frzF al k h) as = some bs) (hx : VRL μ as xs) : VRL μ' bs xs := by
  obtain ⟨h1, h2⟩ := frzMap_get hm
  have hl := hx.length
  refine VRL.of_get (by omega) fun j b hj => ?_
  obtain ⟨a, ha, hfa⟩ := h2 j b hj
  obtain ⟨y, hy, hvy⟩ := hx.get ha
  exact ⟨y, hy, frzF_sim hblk hfz k a b y hfa hvy⟩

/-- The second says no more than the first. -/
def Wk (v v' : AV) : Prop := ∀ μ x, VR μ v x → VR μ v' x
def WkL (vs vs' : List AV) : Prop := ∀ μ xs, VRL μ vs xs → VRL μ vs' xs
theorem Wk.refl (v : AV) : Wk v v := fun _ _ h => h
theorem WkL.refl (v : List AV) : WkL v v := fun _ _ h => h
theorem Wk.nils (ex : Bool) (sz : Nat) : Wk .nils (.lst ex sz 0 []) := fun μ x h => by
  rw [VR] at h; subst h; rw [VR]; exact ⟨none, 0, rfl, Nat.le_refl _, fun _ => rfl, by simp, fun _ => ⟨rfl, rfl⟩, fun h => absurd h (Nat.lt_irrefl _)⟩
theorem Wk.lst (ex : Bool) (sz n : Nat) (cs : List AV) : Wk (.lst ex sz n cs) (.lst false sz n cs) := fun μ x h => by
  obtain ⟨a, c, h1, h2, h3, h4⟩ := h.lst_inv
  rw [VR]; exact ⟨a, c, h1, h2, fun h => (by cases h), h4⟩
theorem WkL.nil : WkL [] [] := fun _ _ h => h
theorem WkL.cons {v v' : AV} {vs vs' : List AV} (h : Wk v v') (hs : WkL vs vs') : WkL (v :: vs) (v' :: vs') := fun μ xs hx => by
  obtain ⟨x, rest, rfl, h1, h2⟩ := hx.cons_inv
  exact VRL.cons (h μ x h1) (hs μ rest h2)
theorem Wk.tup {vs vs' : List AV} (h : WkL vs vs') : Wk (.tup vs) (.tup vs') := fun μ x hx => by
  obtain ⟨us, rfl, hu⟩ := hx.tup_inv; exact VR.mk_tup (h μ _ hu)
theorem Wk.agg {vs vs' : List AV} (h : WkL vs vs') : Wk (.agg vs) (.agg vs') := fun μ x hx => by
  obtain ⟨us, rfl, hu⟩ := hx.agg_inv; exact VR.mk_agg (h μ _ hu)

/-- A function of values: as one of memory. -/
def pureG (g : List AV → Option AV) (args : List AV) (h : AH) : Rs :=
  match flatL args with
  | true => (g args).map (·, h)
  | false => match frzMap (frzF true 9 h) args with
    | some as => match g as with
      | some v => match v.scal with
        | true => some (v, h)
        | false => none
      | none => none
    | none => none

/-- What lies in the world, as it is. -/
def fzAll (w : World) : Nat → Option (Array Value) := fun cb => match w.heap[cb]? with
  | some (.cells arr _ _) => some arr
  | _ => none
theorem fzAll_some {w : World} {cb : Nat} {arr : Array Value} (h : fzAll w cb = some arr) : ∃ el f, w.heap[cb]? = some (.cells arr el f) := by
  unfold fzAll at h
  split at h
  · rename_i el f hc; cases h; exact ⟨el, f, hc⟩
  · cases h
theorem fzAll_of {w : World} {cb : Nat} {arr : Array Value} {el f} (h : w.heap[cb]? = some (.cells arr el f)) : fzAll w cb = some arr := by
  unfold fzAll; rw [h]

/-- The world as a call of a function of values finds it. -/
theorem HR.values {P : Program} (w : World) (fz : Nat → Option (Array Value)) (hfz : ∀ cb arr, fz cb = some arr → ∃ el f, w.heap[cb]? = some (.cells arr el f)) (htb : ∀ k arr, tablesOf P k = some arr → fz k = some arr) :
    HR (P := P) ⟨(· < w.heap.size)⟩ ⟨fun _ => none, fz, (· < w.heap.size), fun _ => False⟩ ⟨0, .leaf⟩ w.heap := by
  refine ⟨fun b x h => (by cases h), fun b x h => ?_, fun b b' x x' y y' _ h => ?_, fun k hk => hk, fun cb arr hf => ⟨hfz cb arr hf, fun b x y h => ?_⟩, fun k hk => hk, fun b hb => hb.elim, htb⟩
  · simp [AH.get, PT.get] at h
  · simp [AH.get, PT.get] at h
  · simp [AH.get, PT.get] at h

section
variable {P : Program} {F : Nat → Option FI} {I : Nat → Option (List AV → AH → Rs)} {T : TT} (hT : TAgree P T) (hmix : P.follows .mixedOrders = true) (hF : FAgree P F) (hI : IAgree P I)

/-- One more function. -/
def addI (I : Nat → Option (List AV → AH → Rs)) (f : Nat) (g : List AV → AH → Rs) : Nat → Option (List AV → AH → Rs) :=
  fun k => bif Nat.beq k f then some g else I k

theorem addI_agree {f : Nat} {g : List AV → AH → Rs} (hI : IAgree P I) (henter : ∀ (as : Array Value) (w : World), (callFunc f as).run P w = .ok (.enter f as) w)
    (hg : ∀ (args : List AV) (h : AH) (v : AV) (h' : AH), g args h = some (v, h') → ∀ (B : BS P) (μ : Img) (vs : List Value) (w : World), VRL μ args vs → HR B μ h w.heap →
      Calls P f vs.toArray w (fun e w' => ∃ v', e = .returned v' ∧ Grows B μ w v h' v' w')) : IAgree P (addI I f g) := by
  refine ⟨fun k g' hk => ?_⟩
  unfold addI at hk
  cases hb : Nat.beq k f with
  | true =>
    have := Nat.eq_of_beq_eq_true hb
    subst this
    rw [hb] at hk
    cases hk
    exact ⟨henter, hg⟩
  | false => rw [hb] at hk; exact hI.fn k g' hk

include hT hmix hF hI in
/-- A function of values. -/
theorem pure_agree {f : Nat} {g : List AV → Option AV} (hfY : Nat.beq f YLD = false) (fi : FI) (hFf : F f = some fi)
    (hg : ∀ (args : List AV) (v : AV), g args = some v → flatL args = true → ∃ args' n k h1 v1 v0, WkL args args' ∧ call F I T n f args' ⟨0, .leaf⟩ = some (v1, h1) ∧ frzF false k h1 v1 = some v0 ∧ Wk v0 v) :
    IAgree P (addI I f (pureG g)) := by
  refine addI_agree hI ?_ ?_
  · obtain ⟨fn, hfn, hbody, _, _, hname, _⟩ := hF.fn f fi hFf
    have hname' : ¬ fn.name = "runtime.NumGoroutine" := by simpa using hname
    exact fun as w => by simp [callFunc, hfn, hname', hbody]
  · intro args h v h' hgv B μ vs w hvs hr
    unfold pureG at hgv
    split at hgv
    · -- values
      rename_i hflat
      simp only [Option.map_eq_some_iff, Prod.mk.injEq] at hgv
      obtain ⟨v2, hv2, rfl, rfl⟩ := hgv
      obtain ⟨args', n, k, h1, v1, v0, hwa, hc, hfr, hwv⟩ := hg args v2 hv2 hflat
      have hr0 := HR.values (P := P) w μ.fz (fun cb arr hf => (hr.frz cb arr hf).1) hr.tab
      have hvs0 : VRL ⟨fun _ => none, μ.fz, (· < w.heap.size), fun _ => False⟩ args vs := VRL.flat (μ := μ) (μ' := ⟨fun _ => none, μ.fz, (· < w.heap.size), fun _ => False⟩) (fun _ _ h => h) hflat hvs
      refine ((((call_sim hT hmix hF hI ⟨(· < w.heap.size)⟩ n) f args' _ v1 h1 hc).1 hfY).2 _ w vs (hwa _ _ hvs0) hr0).mono ?_
      rintro e w' ⟨v', rfl, μ1, hμ1, hv', hr1, hB⟩
      have hfz1 : ∀ cb arr, μ1.fz cb = some arr → fzAll w' cb = some arr ∧ (μ.fz cb = some arr ∨ w.heap.size ≤ cb) := by
        intro cb arr hf
        obtain ⟨el, f, hcell⟩ := (hr1.frz cb arr hf).1
        refine ⟨fzAll_of hcell, ?_⟩
        rcases hμ1.new cb arr hf with h2 | h2
        · exact .inl h2
        · exact .inr (Nat.le_of_not_lt h2)
      obtain ⟨μ', hμ'⟩ : ∃ μ' : Img, μ' = ⟨μ.m, fun cb => match μ.fz cb with | some a => some a | none => if w.heap.size ≤ cb then fzAll w' cb else none, μ.old, μ.res⟩ := ⟨_, rfl⟩
      have hnone : ∀ cb, w.heap.size ≤ cb → μ.fz cb = none := by
        intro cb hcb
        cases hm : μ.fz cb with
        | none => rfl
        | some a => exact absurd (hr.frz_lt hm) (by omega)
      have hle : μ.le μ' := by
        rw [hμ']
        refine ⟨fun _ _ h => h, fun cb arr hf => by simp only [hf], rfl, fun cb arr hf => ?_, rfl⟩
        simp only at hf
        split at hf
        · rename_i a ha; cases hf; exact .inl ha
        · split at hf
          · rename_i hcb; exact .inr fun ho => absurd (hr.old cb ho) (by omega)
          · cases hf
      have hnew : ∀ cb, w.heap.size ≤ cb → ∀ arr, fzAll w' cb = some arr → μ'.fz cb = some arr := by
        intro cb hcb arr ha
        rw [hμ']
        simp only [hnone cb hcb, if_pos hcb, ha]
      have hsim : VR μ' v2 v' := by
        refine hwv _ _ (frzF_sim (μ := μ1) (h := h1) (al := false) ?_ ?_ k v1 v0 v' hfr hv')
        · intro b cs kd hb hk
          have hk : kd ≠ .ro := by rcases hk with h | h; · cases h
                                   exact h
          obtain ⟨_, cb, δ, N, arr, el, fz, g1, g2, g3, g4, g5⟩ := hr1.blk b _ hb
          exact ⟨cb, δ, N, arr, g1, hnew cb (Nat.le_of_not_lt (g5 hk).1) arr (fzAll_of g2), g3⟩
        · intro cb arr hf
          obtain ⟨h2, h3⟩ := hfz1 cb arr hf
          rcases h3 with h3 | h3
          · rw [hμ']; simp only [h3]
          · exact hnew cb h3 arr h2
      have hr2 := hr.below hB
      refine ⟨v', rfl, μ', hle, hsim, ?_, hB.mono hr.base⟩
      refine ⟨fun b x hb => hr2.dom b x (by rw [hμ'] at hb; exact hb), fun b x hb => ⟨(hr2.blk b x hb).1, (hr2.blk b x hb).2.keep hle fun _ _ _ _ => rfl⟩, fun b b' x x' y y' hne h1 h2 h3 h4 h5 h6 => ?_, hr2.base, ?_, ?_, fun b hb => by rw [hμ'] at hb ⊢; exact hr2.res b hb, fun k arr hk => hle.fz _ _ (hr2.tab k arr hk)⟩
      · rw [hμ'] at h5 h6; exact hr2.inj b b' x x' y y' hne h1 h2 h3 h4 h5 h6
      · intro cb arr hf
        rw [hμ'] at hf
        simp only at hf
        split at hf
        · rename_i a ha
          cases hf
          obtain ⟨q1, q2⟩ := hr2.frz cb arr ha
          exact ⟨q1, fun b x y hb hl hm => q2 b x y hb hl (by rw [hμ'] at hm; exact hm)⟩
        · split at hf
          · rename_i hcb
            refine ⟨fzAll_some hf, fun b x y hb hl hm => ?_⟩
            rw [hμ'] at hm
            have := (hr.dom b y hm).2
            omega
          · cases hf
      · intro k hk; rw [hμ'] at hk; exact hr2.old k hk
    · -- what memory holds
      rename_i hflat
      split at hgv
      · rename_i as has
        split at hgv
        · rename_i v2 hv2
          split at hgv
          · rename_i hsc
            cases hgv
            have hfl : flatL as = true := by
              obtain ⟨_, h2⟩ := frzMap_get has
              refine flatL_get fun j b hj => ?_
              obtain ⟨a, _, ha⟩ := h2 j b hj
              exact frzF_flat _ _ _ ha
            obtain ⟨args', n, k, h1, v1, v0, hwa, hc, hfr, hwv⟩ := hg as v hv2 hfl
            have hr0 := HR.values (P := P) w (fzAll w) (fun cb arr hf => fzAll_some hf) (fun k arr hk => let ⟨⟨_, _, hc⟩, _⟩ := hr.frz k arr (hr.tab k arr hk); fzAll_of hc)
            have hfz0 : ∀ cb arr, μ.fz cb = some arr → fzAll w cb = some arr := fun cb arr hf => by
              obtain ⟨el, f, hcell⟩ := (hr.frz cb arr hf).1
              exact fzAll_of hcell
            have hvs0 : VRL ⟨fun _ => none, fzAll w, (· < w.heap.size), fun _ => False⟩ as vs := by
              refine frzL_sim (μ := μ) (h := h) (al := true) (k := 9) ?_ hfz0 has hvs
              intro b cs kd hb _
              obtain ⟨_, cb, δ, N, arr, el, fz, g1, g2, g3, _⟩ := hr.blk b _ hb
              exact ⟨cb, δ, N, arr, g1, fzAll_of g2, g3⟩
            refine ((((call_sim hT hmix hF hI ⟨(· < w.heap.size)⟩ n) f args' _ v1 h1 hc).1 hfY).2 _ w vs (hwa _ _ hvs0) hr0).mono ?_
            rintro e w' ⟨v', rfl, μ1, hμ1, hv', hr1, hB⟩
            have hsim : VR ⟨fun _ => none, fzAll w', fun _ => True, fun _ => False⟩ v v' := by
              refine hwv _ _ (frzF_sim (μ := μ1) (h := h1) (al := false) ?_ ?_ k v1 v0 v' hfr hv')
              · intro b cs kd hb hk
                obtain ⟨_, cb, δ, N, arr, el, fz, g1, g2, g3, g4, g5⟩ := hr1.blk b _ hb
                exact ⟨cb, δ, N, arr, g1, fzAll_of g2, g3⟩
              · intro cb arr hf
                obtain ⟨el, f, hcell⟩ := (hr1.frz cb arr hf).1
                exact fzAll_of hcell
            exact ⟨v', rfl, μ, Img.le.refl μ, hsim.scal hsc, hr.below hB, hB.mono hr.base⟩
          · cases hgv
        · cases hgv
      · cases hgv

/-- A method of one block of values: as one of memory. -/
def stateG (g : List AV → List AV → Option (AV × List AV)) (args : List AV) (h : AH) : Rs :=
  match args with
  | .ptr b 0 :: rest => match h.get b with
    | some (.cells cs .own) => match flatL rest && flatL cs with
      | true => (g cs rest).map fun p => (p.1, h.put b (.cells p.2 .own))
      | false => none
    | _ => none
  | _ => none

def oneBlk (cs : List AV) : AH := ⟨1, PT.set .leaf 0 (AB.cells cs .own)⟩
theorem oneBlk_get (cs : List AV) (b : Nat) : (oneBlk cs).get b = if b = 0 then some (.cells cs .own) else none := by
  show (PT.set .leaf 0 (AB.cells cs .own)).get b = _
  rw [PT.get_set]; rfl

omit hT hmix hF hI in
theorem addI_get {f : Nat} {g} (I : Nat → Option (List AV → AH → Rs)) : addI I f g f = some g := by simp [addI]

include hT hmix hF hI in
/-- A method of one block of values. -/
theorem state_agree {f : Nat} {g : List AV → List AV → Option (AV × List AV)} (hfY : Nat.beq f YLD = false) (fi : FI) (hFf : F f = some fi)
    (hg : ∀ (cs rest : List AV) (v : AV) (cs' : List AV), g cs rest = some (v, cs') → flatL rest = true → flatL cs = true →
      ∃ cs0 rest' n k h1 v1 v0 cs1 cs2, WkL cs cs0 ∧ cs0.length = cs.length ∧ WkL rest rest' ∧ call F I T n f (.ptr 0 0 :: rest') (oneBlk cs0) = some (v1, h1) ∧ frzF false k (h1.put 0 .dead) v1 = some v0 ∧ Wk v0 v ∧
        h1.get 0 = some (.cells cs1 .own) ∧ frzMap (frzF false k (h1.put 0 .dead)) cs1 = some cs2 ∧ WkL cs2 cs' ∧ cs'.length = cs1.length) :
    IAgree P (addI I f (stateG g)) := by
  refine addI_agree hI ?_ ?_
  · obtain ⟨fn, hfn, hbody, _, _, hname, _⟩ := hF.fn f fi hFf
    have hname' : ¬ fn.name = "runtime.NumGoroutine" := by simpa using hname
    exact fun as w => by simp [callFunc, hfn, hname', hbody]
  · intro args h v h' hgv B μ vs w hvs hr
    unfold stateG at hgv
    split at hgv
    case h_2 => cases hgv
    rename_i b rest
    split at hgv
    case h_2 => cases hgv
    rename_i cs hb
    split at hgv
    case h_2 => cases hgv
    rename_i hflat
    simp only [Bool.and_eq_true] at hflat
    simp only [Option.map_eq_some_iff, Prod.mk.injEq] at hgv
    obtain ⟨⟨v2, cs'⟩, hv2, rfl, rfl⟩ := hgv
    obtain ⟨cs0, rest', n, k, h1, v1, v0, cs1, cs2, hw1, hw1l, hw2, hc, hfr, hwv, hg1, hf2, hwc, hlen⟩ := hg cs rest v2 cs' hv2 hflat.1 hflat.2
    obtain ⟨x, vs, rfl, hx, hvr⟩ := hvs.cons_inv
    obtain ⟨cb, δ, N, hm, rfl⟩ := hx.ptr_inv
    obtain ⟨_, cb', δ', N', arr, el, fz, g1, g2, g3, _, g5⟩ := hr.blk b _ hb
    rw [hm] at g1; cases g1
    obtain ⟨q1, q2, q3, q4⟩ := g5 (by simp)
    have hcblt : cb < w.heap.size := (Array.getElem?_eq_some_iff.1 g2).1
    obtain ⟨μc, hμc⟩ : ∃ μc : Img, μc = ⟨fun b' => if b' = 0 then some (cb, δ, N) else none, μ.fz, (· < w.heap.size), fun _ => False⟩ := ⟨_, rfl⟩
    have hcr0 : CellsR μc cs0 arr δ := by
      have h1 : CellsR μc cs arr δ := ⟨g3.len, fun j a hj => by
        obtain ⟨v, hv, hvr⟩ := g3.rel j a hj
        have hfa : a.flat = true := by
          have : ∀ (l : List AV), flatL l = true → ∀ (j : Nat) (a : AV), l[j]? = some a → a.flat = true := by
            intro l
            induction l with
            | nil => intro _ j a h; simp at h
            | cons y l ih =>
              intro hl j a h
              simp only [flatL, Bool.and_eq_true] at hl
              cases j with
              | zero => simp at h; subst h; exact hl.1
              | succ j => simp at h; exact ih hl.2 j a h
          exact this cs hflat.2 j a hj
        exact ⟨v, hv, hvr.flat (by rw [hμc]; exact fun _ _ h => h) hfa⟩⟩
      have hl := g3.len
      have h2 : VRL μc cs ((arr.toList.drop δ).take cs.length) := VRL.of_get (by simp; omega) fun j a hj => by
        obtain ⟨v, hv, hvr⟩ := h1.rel j a hj
        have hjl : j < cs.length := (List.getElem?_eq_some_iff.1 hj).1
        exact ⟨v, by rw [List.getElem?_take, if_pos hjl, List.getElem?_drop]; simpa using hv, hvr⟩
      have h3 := hw1 _ _ h2
      refine ⟨by rw [hw1l]; exact g3.len, fun j a hj => ?_⟩
      obtain ⟨v, hv, hvr⟩ := h3.get hj
      have hjl : j < cs0.length := (List.getElem?_eq_some_iff.1 hj).1
      rw [List.getElem?_take, if_pos (by omega), List.getElem?_drop] at hv
      exact ⟨v, by simpa using hv, hvr⟩
    have hr0 : HR (P := P) ⟨fun k => k < w.heap.size ∧ k ≠ cb⟩ μc (oneBlk cs0) w.heap := by
      refine ⟨fun c x hx => ?_, fun c x hx => ?_, fun c c' x x' y y' hne h1 h2 => ?_, fun k hk => hk.1, fun c a hf => ?_, fun k hk => (by rw [hμc] at hk; exact hk), fun b hb => by rw [hμc] at hb; exact hb.elim, fun k arr hk => by rw [hμc]; exact hr.tab k arr hk⟩
      · rw [hμc] at hx
        simp only at hx
        split at hx
        · rename_i e; cases hx; subst e; exact ⟨Nat.zero_lt_one, hcblt⟩
        · cases hx
      · rw [oneBlk_get] at hx
        split at hx
        · rename_i e
          cases hx; subst e
          exact ⟨Nat.zero_lt_one, cb, δ, arr.size, arr, el, fz, by rw [hμc, q2]; rfl, g2, hcr0, (fun h => by cases h), fun _ => ⟨fun h => h.2 rfl, rfl, by rw [q2]; exact q3, fun _ => q4 rfl⟩⟩
        · cases hx
      · rw [oneBlk_get] at h1 h2
        split at h1
        · split at h2
          · omega
          · cases h2
        · cases h1
      · have hf' : μ.fz c = some a := by rw [hμc] at hf; exact hf
        obtain ⟨r1, r2⟩ := hr.frz c a hf'
        refine ⟨r1, fun b' x y hb' hl hm' => ?_⟩
        rw [hμc] at hm'
        simp only at hm'
        split at hm'
        · cases hm'; exact r2 b _ _ hb rfl hm
        · cases hm'
    have hvs0 : VRL μc (.ptr 0 0 :: rest') (.pointer (some ⟨cb, δ + 0, none⟩) :: vs) := by
      refine VRL.cons (VR.mk_ptr (N := N) (by rw [hμc]; rfl) rfl) (hw2 _ _ (VRL.flat (μ := μ) (by rw [hμc]; exact fun _ _ h => h) hflat.1 hvr))
    refine ((((call_sim hT hmix hF hI ⟨fun k => k < w.heap.size ∧ k ≠ cb⟩ n) f _ _ v1 h1 hc).1 hfY).2 _ w _ hvs0 hr0).mono ?_
    rintro e w' ⟨v', rfl, μ1, hμ1, hv', hr1, hB⟩
    have hfz1 : ∀ c a, μ1.fz c = some a → fzAll w' c = some a ∧ (μ.fz c = some a ∨ w.heap.size ≤ c) := by
      intro c a hf
      obtain ⟨el, f, hcell⟩ := (hr1.frz c a hf).1
      refine ⟨fzAll_of hcell, ?_⟩
      rcases hμ1.new c a hf with h2 | h2
      · rw [hμc] at h2; exact .inl h2
      · rw [hμc] at h2; exact .inr (Nat.le_of_not_lt h2)
    obtain ⟨μ', hμ'⟩ : ∃ μ' : Img, μ' = ⟨μ.m, fun c => match μ.fz c with | some a => some a | none => if w.heap.size ≤ c then fzAll w' c else none, μ.old, μ.res⟩ := ⟨_, rfl⟩
    have hnone : ∀ c, w.heap.size ≤ c → μ.fz c = none := by
      intro c hcb
      cases hm : μ.fz c with
      | none => rfl
      | some a => exact absurd (hr.frz_lt hm) (by omega)
    have hle : μ.le μ' := by
      rw [hμ']
      refine ⟨fun _ _ h => h, fun c a hf => by simp only [hf], rfl, fun c a hf => ?_, rfl⟩
      simp only at hf
      split at hf
      · rename_i a ha; cases hf; exact .inl ha
      · split at hf
        · rename_i hcb; exact .inr fun ho => absurd (hr.old c ho) (by omega)
        · cases hf
    have hnew : ∀ c, w.heap.size ≤ c → ∀ a, fzAll w' c = some a → μ'.fz c = some a := by
      intro c hcb a ha
      rw [hμ']
      simp only [hnone c hcb, if_pos hcb, ha]
    have hμ1c : μ1 0 = some (cb, δ, N) := hμ1.m 0 _ (by rw [hμc]; rfl)
    -- which blocks may be read on
    have hfz' : ∀ c a, μ1.fz c = some a → μ'.fz c = some a := by
      intro c a hf
      obtain ⟨h2, h3⟩ := hfz1 c a hf
      rcases h3 with h3 | h3
      · rw [hμ']; simp only [h3]
      · exact hnew c h3 a h2
    have hblk : ∀ b cs kd, (h1.put 0 .dead).get b = some (.cells cs kd) → (false = true ∨ kd ≠ .ro) → ∃ cb δ N arr, μ1 b = some (cb, δ, N) ∧ μ'.fz cb = some arr ∧ CellsR μ1 cs arr δ := by
      intro b2 cs2 kd hb2 hk
      have hk : kd ≠ .ro := by rcases hk with h | h; · cases h
                               exact h
      rw [AH.get_put] at hb2
      split at hb2
      · cases hb2
      · rename_i hne
        obtain ⟨_, cb2, δ2, N2, arr2, el2, fz2, r1, r2, r3, r4, r5⟩ := hr1.blk b2 _ hb2
        have hne2 : cb2 ≠ cb := hr1.inj b2 0 _ _ _ _ hne hb2 hg1 (by cases kd <;> first | rfl | exact absurd rfl hk) rfl r1 hμ1c
        have hge : w.heap.size ≤ cb2 := Nat.le_of_not_lt fun hlt => (r5 hk).1 ⟨hlt, hne2⟩
        exact ⟨cb2, δ2, N2, arr2, r1, hnew cb2 hge arr2 (fzAll_of r2), r3⟩
    have hsame : ∀ c, c < w.heap.size → c ≠ cb → w'.heap[c]? = w.heap[c]? := fun c h1 h2 => hB.block c ⟨h1, h2⟩
    have hBc : ∀ k, B k → k < w.heap.size ∧ k ≠ cb := fun k hk => ⟨hr.base k hk, fun e => q1 (by rw [← e]; exact hk)⟩
    obtain ⟨_, cb3, δ3, N3, arr3, el3, fz3, t1, t2, t3, _, t5⟩ := hr1.blk 0 _ hg1
    rw [hμ1c] at t1; cases t1
    obtain ⟨u1, u2, u3, u4⟩ := t5 (by simp)
    have hcs' : CellsR μ' cs' arr3 δ := by
      have hl3 := t3.len
      have k1 : VRL μ1 cs1 ((arr3.toList.drop δ).take cs1.length) := VRL.of_get (by simp; omega) fun j a hj => by
        obtain ⟨v, hv, hvr⟩ := t3.rel j a hj
        have hjl : j < cs1.length := (List.getElem?_eq_some_iff.1 hj).1
        exact ⟨v, by rw [List.getElem?_take, if_pos hjl, List.getElem?_drop]; simpa using hv, hvr⟩
      have k2 := hwc _ _ (frzL_sim hblk hfz' hf2 k1)
      refine ⟨by rw [hlen]; exact hl3, fun j a hj => ?_⟩
      obtain ⟨v, hv, hvr⟩ := k2.get hj
      have hjl : j < cs'.length := (List.getElem?_eq_some_iff.1 hj).1
      rw [List.getElem?_take, if_pos (by omega), List.getElem?_drop] at hv
      exact ⟨v, by simpa using hv, hvr⟩
    refine ⟨v', rfl, μ', hle, hwv _ _ (frzF_sim hblk hfz' k v1 v0 v' hfr hv'), ?_, hB.mono hBc⟩
    have hm' : ∀ c y, μ' c = some y ↔ μ c = some y := fun c y => by rw [hμ']
    refine ⟨fun c y hy => ⟨(hr.dom c y ((hm' c y).1 hy)).1, Nat.lt_of_lt_of_le (hr.dom c y ((hm' c y).1 hy)).2 hB.size⟩, fun c y hy => ?_, fun c c' y y' z z' hne hc hc' hyl hyl' hz hz' => ?_, fun k hk => Nat.lt_of_lt_of_le (hr.base k hk) hB.size, fun c a hf => ?_,
      fun k hk => Nat.lt_of_lt_of_le (hr.old k (by rw [hμ'] at hk; exact hk)) hB.size, fun b hb => by rw [hμ'] at hb ⊢; exact hr.res b hb, fun k arr hk => hle.fz _ _ (hr.tab k arr hk)⟩
    · rw [AH.get_put] at hy
      split at hy
      · rename_i e
        cases hy; subst e
        exact ⟨(hr.dom _ _ hm).1, cb, δ, N, arr3, el3, fz3, (hm' _ _).2 hm, t2, hcs', (fun h => by cases h), fun _ => ⟨q1, u2, u3, u4⟩⟩
      · rename_i hne
        refine ⟨(hr.blk c y hy).1, ?_⟩
        by_cases hdead : y = .dead
        · subst hdead; trivial
        refine (hr.blk c y hy).2.keep hle fun cb2 δ2 N2 hc2 => ?_
        have hlt2 := (hr.dom c _ hc2).2
        refine hsame cb2 hlt2 ?_
        cases hyl : y.live with
        | true => exact hr.inj c b y _ _ _ hne hy hb hyl rfl hc2 hm
        | false =>
          intro e
          cases y with
          | map es => simp [AB.live] at hyl
          | dfr => simp [AB.live] at hyl
          | iter => simp [AB.live] at hyl
          | loop => simp [AB.live] at hyl
          | cells cs kd =>
            have hk : kd = .ro := by cases kd <;> simp [AB.live] at hyl ⊢
            obtain ⟨_, cb4, δ4, N4, arr4, el4, fz4, z1, z2, z3, z4, z5⟩ := hr.blk c _ hy
            rw [hc2] at z1; cases z1
            exact (z4 hk).elim
          | dead => exact hdead rfl
    · rw [AH.get_put] at hc hc'
      rw [hm'] at hz hz'
      by_cases e : c = b
      · subst e
        rw [if_neg (fun e => hne e.symm)] at hc'
        exact hr.inj c c' _ y' z z' hne hb hc' rfl hyl' hz hz'
      · rw [if_neg e] at hc
        by_cases e' : c' = b
        · subst e'; exact hr.inj c c' y _ z z' hne hc hb hyl rfl hz hz'
        · rw [if_neg e'] at hc'; exact hr.inj c c' y y' z z' hne hc hc' hyl hyl' hz hz'
    · rw [hμ'] at hf
      simp only at hf
      split at hf
      · rename_i a2 ha
        cases hf
        obtain ⟨⟨el5, f5, q5⟩, q6⟩ := hr.frz c a ha
        have hcne : c ≠ cb := fun e => q6 b _ _ hb rfl hm e.symm
        refine ⟨⟨el5, f5, by rw [hsame c (hr.frz_lt ha) hcne]; exact q5⟩, fun c2 y z hy hl hz => ?_⟩
        rw [hm'] at hz
        rw [AH.get_put] at hy
        split at hy
        · rename_i e; subst e; exact q6 _ _ _ hb rfl hz
        · exact q6 c2 y z hy hl hz
      · split at hf
        · rename_i hcb
          refine ⟨fzAll_some hf, fun c2 y z hy hl hz => ?_⟩
          rw [hm'] at hz
          have := (hr.dom c2 z hz).2
          omega
        · cases hf
end

end Go.AM
