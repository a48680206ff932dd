/- The abstract machine over a loaded program: its types and functions. Own work. -/
import Derived.Test.YtghkgkjbdfnimaaAmCall
import Derived.Laws.StructEq
namespace Go.AM
open Go Go.RowKit
set_option linter.unusedVariables false
set_option linter.unusedSimpArgs false
set_option linter.unusedSectionVars false

theorem bytes_beq (a b : List UInt8) : ((ByteArray.mk (Array.mk a)) == ByteArray.mk (Array.mk b)) = (a == b) := by
  show ((Array.mk a) == Array.mk b) = (a == b)
  simp

def skFields (g : TypeId → List SK) : List Field → Nat → Option (List SK)
  | [], _ => some []
  | f :: fs, off =>
    if f.name == "_" then none
    else if f.offset = off then match g f.type with
      | [] => none
      | k :: ks => (skFields g fs (off + (k :: ks).length)).map fun r => (k :: ks) ++ r
    else none

def skOf (P : Program) : Nat → TypeId → List SK
  | 0, _ => []
  | d + 1, t =>
    match P.underlying t with
    | some .bool => if (P.info? t).map (·.size) = some 1 then [.bool] else []
    | some (.int k) => if (P.info? t).map (·.size) = some 1 then [.int k] else []
    | some .string => if (P.info? t).map (·.size) = some 1 then [.str] else []
    | some (.struct fs) =>
      if P.stoodInHeld t then [] else
      match skFields (skOf P d) fs.toList 0 with
      | some ks => if (P.info? t).map (·.size) = some ks.length then ks else []
      | none => []
    | _ => []

theorem conf_length : ∀ {ks : List SK} {as : List AV}, conf ks as = true → as.length = ks.length
  | [], [], _ => rfl
  | [], _ :: _, h => by simp [conf] at h
  | k :: ks, [], h => by cases k <;> simp [conf] at h
  | k :: ks, a :: as, h => by
    cases k <;> cases a <;> simp [conf] at h
    · simp [conf_length h.2]
    · simp [conf_length h]
    · simp [conf_length h]

theorem conf_split : ∀ {ks1 ks2 : List SK} {as : List AV}, conf (ks1 ++ ks2) as = true → conf ks1 (as.take ks1.length) = true ∧ conf ks2 (as.drop ks1.length) = true
  | [], ks2, as, h => by simpa [conf] using h
  | k :: ks1, ks2, [], h => by cases k <;> simp [conf] at h
  | k :: ks1, ks2, a :: as, h => by
    cases k <;> cases a <;> simp [conf] at h ⊢
    · have := conf_split h.2; exact ⟨⟨h.1, this.1⟩, this.2⟩
    · exact conf_split h
    · exact conf_split h

theorem eqCells_append : ∀ {ks : List SK} {as bs as2 bs2 : List AV}, conf ks as = true → conf ks bs = true → eqCells (as ++ as2) (bs ++ bs2) = (eqCells as bs && eqCells as2 bs2)
  | [], [], [], _, _, _, _ => by simp [eqCells]
  | [], _ :: _, _, _, _, h, _ => by simp [conf] at h
  | [], [], _ :: _, _, _, _, h => by simp [conf] at h
  | k :: ks, [], _, _, _, h, _ => by cases k <;> simp [conf] at h
  | k :: ks, _ :: _, [], _, _, _, h => by cases k <;> simp [conf] at h
  | k :: ks, a :: as, b :: bs, as2, bs2, h, h' => by
    cases k <;> cases a <;> simp [conf] at h <;> cases b <;> simp [conf] at h' <;> simp [eqCells, List.cons_append]
    · rw [eqCells_append h.2 h'.2, Bool.and_assoc]
    · rw [eqCells_append h h', Bool.and_assoc]
    · rw [eqCells_append h h', Bool.and_assoc]

/-- A value out of its cells. -/
def asV (row : Bool) (as : List AV) : AV := if row then .agg as else as.headD .bad

theorem asV_part {row : Bool} {as : List AV} {off n : Nat} (hn : 0 < n) (hr : row = false → n = 1) (hl : off + n ≤ as.length) : aPart off n row as = some (asV row ((as.drop off).take n)) := by
  cases row with
  | true => simp [aPart, asV]
  | false =>
    have := hr rfl; subst this
    have hlt : off < as.length := by omega
    simp only [aPart, asV]
    rw [List.getElem?_eq_getElem hlt, List.drop_eq_getElem_cons hlt]
    rfl

theorem sk_one {P : Program} : ∀ {d : Nat} {t : TypeId}, skOf P d t ≠ [] → ∃ i dt, P.info? t = some i ∧ P.underlying t = some dt ∧ i.size = (skOf P d t).length ∧ (isRow dt = false → (skOf P d t).length = 1)
  | 0, t, h => by simp [skOf] at h
  | d + 1, t, h => by
    unfold skOf at h ⊢
    have hinfo : ∀ n, (P.info? t).map (·.size) = some n → ∃ i, P.info? t = some i ∧ i.size = n := by
      intro n hn
      cases hi : P.info? t with
      | none => simp [hi] at hn
      | some i => simp [hi] at hn; exact ⟨i, rfl, hn⟩
    cases hu : P.underlying t with
    | none => simp [hu] at h
    | some dt =>
      simp only [hu] at h ⊢
      cases dt <;> simp only at h ⊢ <;> try (exact absurd rfl h)
      · split at h
        · rename_i hs; obtain ⟨i, hi, hsz⟩ := hinfo _ hs; rw [if_pos hs]; exact ⟨i, _, hi, rfl, hsz, fun _ => rfl⟩
        · exact absurd rfl h
      · split at h
        · rename_i hs; obtain ⟨i, hi, hsz⟩ := hinfo _ hs; rw [if_pos hs]; exact ⟨i, _, hi, rfl, hsz, fun _ => rfl⟩
        · exact absurd rfl h
      · split at h
        · rename_i hs; obtain ⟨i, hi, hsz⟩ := hinfo _ hs; rw [if_pos hs]; exact ⟨i, _, hi, rfl, hsz, fun _ => rfl⟩
        · exact absurd rfl h
      · split at h
        · exact absurd rfl h
        · rename_i hst
          rw [if_neg hst]
          cases hk : skFields (skOf P d) _ 0 with
          | none => simp [hk] at h
          | some ks =>
            simp only [hk] at h ⊢
            split at h
            · rename_i hs; obtain ⟨i, hi, hsz⟩ := hinfo _ hs; rw [if_pos hs]; exact ⟨i, _, hi, rfl, hsz, fun h => by simp [isRow] at h⟩
            · exact absurd rfl h

theorem eq_fields {P : Program} {μ : Img} {w : World} {D : Nat} {g : TypeId → List SK}
    (hg : ∀ t, g t ≠ [] → ∃ i dt, P.info? t = some i ∧ P.underlying t = some dt ∧ i.size = (g t).length ∧ (isRow dt = false → (g t).length = 1) ∧
      ∀ as bs xv yv, conf (g t) as = true → conf (g t) bs = true → VR μ (asV (isRow dt) as) xv → VR μ (asV (isRow dt) bs) yv → (Op.equalIn D t xv yv).run P w = .ok (eqCells as bs) w) :
    ∀ (fs : List Field) (off : Nat) (ks : List SK) (as bs : List AV) (xs ys : Array Value), skFields g fs off = some ks → VRL μ as xs.toList → VRL μ bs ys.toList →
      conf ks (as.drop off) = true → conf ks (bs.drop off) = true → (Op.eqFields D xs ys fs).run P w = .ok (eqCells (as.drop off) (bs.drop off)) w
  | [], off, ks, as, bs, xs, ys, hk, hx, hy, ha, hb => by
    simp only [skFields, Option.some.injEq] at hk; subst hk
    have h1 : as.drop off = [] := List.length_eq_zero_iff.1 (by rw [conf_length ha]; rfl)
    have h2 : bs.drop off = [] := List.length_eq_zero_iff.1 (by rw [conf_length hb]; rfl)
    rw [h1, h2]
    simp [Op.eqFields, eqCells]
  | f :: fs, off, ks, as, bs, xs, ys, hk, hx, hy, ha, hb => by
    simp only [skFields] at hk
    split at hk
    · cases hk
    · rename_i hn
      split at hk
      · rename_i hoff
        cases hgt : g f.type with
        | nil => simp [hgt] at hk
        | cons k kr =>
          simp only [hgt, Option.map_eq_some_iff] at hk
          obtain ⟨kr2, hk2, rfl⟩ := hk
          have hne : g f.type ≠ [] := by rw [hgt]; simp
          obtain ⟨i, dt, hi, hdt, hsz, h1, heq⟩ := hg f.type hne
          rw [hgt] at hsz h1 heq
          obtain ⟨ha1, ha2⟩ := conf_split ha
          obtain ⟨hb1, hb2⟩ := conf_split hb
          have hla := conf_length ha1
          have hlb := conf_length hb1
          rw [List.drop_drop] at ha2 hb2
          have hlena : off + (k :: kr).length ≤ as.length := by simp at hla; simp; omega
          have hlenb : off + (k :: kr).length ≤ bs.length := by simp at hlb; simp; omega
          have hpa := asV_part (row := isRow dt) (as := as) (off := off) (n := (k :: kr).length) (by simp) h1 hlena
          have hpb := asV_part (row := isRow dt) (as := bs) (off := off) (n := (k :: kr).length) (by simp) h1 hlenb
          obtain ⟨xv, hxr, hxv⟩ := part_sim (P := P) hx hi hsz hdt hpa w
          obtain ⟨yv, hyr, hyv⟩ := part_sim (P := P) hy hi hsz hdt hpb w
          have he := heq _ _ xv yv ha1 hb1 hxv hyv
          have hrest := eq_fields hg fs (off + (k :: kr).length) kr2 as bs xs ys hk2 hx hy ha2 hb2
          have hn' : f.name ≠ "_" := by simpa using hn
          have hsplit : ∀ l : List AV, l.drop off = (l.drop off).take (k :: kr).length ++ l.drop (off + (k :: kr).length) := by
            intro l
            rw [← List.drop_drop, List.take_append_drop]
          have hcat : eqCells (as.drop off) (bs.drop off) = (eqCells ((as.drop off).take (k :: kr).length) ((bs.drop off).take (k :: kr).length) && eqCells (as.drop (off + (k :: kr).length)) (bs.drop (off + (k :: kr).length))) := by
            have := eqCells_append (as2 := as.drop (off + (k :: kr).length)) (bs2 := bs.drop (off + (k :: kr).length)) ha1 hb1
            rw [← hsplit as, ← hsplit bs] at this
            exact this
          rw [hcat]
          generalize eqCells ((as.drop off).take (k :: kr).length) ((bs.drop off).take (k :: kr).length) = r at he
          rw [Op.eqFields]
          rw [hoff]
          simp only [if_pos hn', Sem.run_bind, hxr, hyr, he, Result.andThen_ok]
          cases r
          · simp
          · rw [Bool.true_and]; simpa using hrest
      · cases hk

theorem eq_sim {P : Program} {μ : Img} {w : World} : ∀ (d : Nat) (t : TypeId), skOf P d t ≠ [] → ∀ D, d ≤ D → ∃ dt, P.underlying t = some dt ∧
    ∀ as bs xv yv, conf (skOf P d t) as = true → conf (skOf P d t) bs = true → VR μ (asV (isRow dt) as) xv → VR μ (asV (isRow dt) bs) yv → (Op.equalIn D t xv yv).run P w = .ok (eqCells as bs) w
  | 0, t, h, _, _ => by simp [skOf] at h
  | d + 1, t, h, D, hD => by
    obtain ⟨D, rfl⟩ : ∃ m, D = m + 1 := ⟨D - 1, by omega⟩
    obtain ⟨i, dt, hi, hdt, hsz, h1⟩ := sk_one h
    refine ⟨dt, hdt, fun as bs xv yv ha hb hx hy => ?_⟩
    have hu : (underlying t).run P w = .ok dt w := by simp [underlying, hdt]
    unfold skOf at ha hb h
    simp only [hdt] at ha hb h
    cases dt <;> simp only at ha hb h <;> try (exact absurd rfl h)
    · split at ha
      · rename_i hs
        rw [if_pos hs] at hb
        cases as with
        | nil => simp [conf] at ha
        | cons a as => cases a <;> cases as <;> simp [conf] at ha
                       cases bs with
                       | nil => simp [conf] at hb
                       | cons b bs => cases b <;> cases bs <;> simp [conf] at hb
                                      have := VR.bool_inv (μ := μ) hx; subst this
                                      have := VR.bool_inv (μ := μ) hy; subst this
                                      rw [Op.equalIn]; simp [hu, eqCells]
      · rename_i hs; rw [if_neg hs] at h; exact absurd rfl h
    · split at ha
      · rename_i hs
        rw [if_pos hs] at hb
        cases as with
        | nil => simp [conf] at ha
        | cons a as => cases a <;> cases as <;> simp [conf] at ha
                       cases bs with
                       | nil => simp [conf] at hb
                       | cons b bs => cases b <;> cases bs <;> simp [conf] at hb
                                      have := VR.int_inv (μ := μ) hx; subst this
                                      have := VR.int_inv (μ := μ) hy; subst this
                                      subst ha; subst hb
                                      rw [Op.equalIn]; simp [hu, eqCells]
      · rename_i hs; rw [if_neg hs] at h; exact absurd rfl h
    · split at ha
      · rename_i hs
        rw [if_pos hs] at hb
        cases as with
        | nil => simp [conf] at ha
        | cons a as => cases a <;> cases as <;> simp [conf] at ha
                       cases bs with
                       | nil => simp [conf] at hb
                       | cons b bs => cases b <;> cases bs <;> simp [conf] at hb
                                      have := VR.str_inv (μ := μ) hx; subst this
                                      have := VR.str_inv (μ := μ) hy; subst this
                                      rw [Op.equalIn]; simp [hu, eqCells]
                                      exact bytes_beq _ _
      · rename_i hs; rw [if_neg hs] at h; exact absurd rfl h
    · rename_i fs
      split at h
      · exact absurd rfl h
      · rename_i hst
        rw [if_neg hst] at ha hb
        cases hk : skFields (skOf P d) fs.toList 0 with
        | none => simp [hk] at h
        | some ks =>
          simp only [hk] at ha hb h
          split at ha
          · rename_i hs
            rw [if_pos hs] at hb
            simp only [asV, isRow, if_true] at hx hy
            obtain ⟨xs, rfl, hxs⟩ := hx.agg_inv
            obtain ⟨ys, rfl, hys⟩ := hy.agg_inv
            have hf : P.fieldsOf t = fs := by simp [Program.fieldsOf, hdt]
            have hst' : P.stoodInHeld t = false := by simpa using hst
            rw [run_equalIn_struct (P := P) w D t xs ys (by rw [hf]; exact hdt) hst', hf]
            have := eq_fields (P := P) (μ := μ) (w := w) (D := D) (g := skOf P d) (fun t ht => by
              obtain ⟨i, dt, e1, e2, e3, e4⟩ := sk_one ht
              obtain ⟨dt', e5, e6⟩ := eq_sim (μ := μ) (w := w) d t ht D (by omega)
              rw [e2] at e5; cases e5
              exact ⟨i, dt, e1, e2, e3, e4, e6⟩) fs.toList 0 ks as bs xs ys hk hxs hys (by simpa using ha) (by simpa using hb)
            simpa using this
          · rename_i hs; rw [if_neg hs] at h; exact absurd rfl h

end Go.AM
