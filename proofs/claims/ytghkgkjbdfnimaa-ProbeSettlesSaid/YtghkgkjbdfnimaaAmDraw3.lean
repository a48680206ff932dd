/- Regions whose order is open: every order comes to what the text's order comes to. Own work. -/
import Derived.Test.YtghkgkjbdfnimaaAmDraw2
namespace Go.AM
open Go Go.RowKit
set_option linter.unusedVariables false
set_option linter.unusedSimpArgs false
set_option linter.unusedSectionVars false

/-- The run in the order of the text. -/
structure Tr (C : Cf) (T : TT) (all : Array Oper) (es : Nat → Env) (hs : Nat → AH) : Prop where
  step : ∀ (i : Nat) (o : Oper), all[i]? = some o → ∃ v, stepV C T all o (es i) (hs i) = some (v, hs (i + 1)) ∧ es (i + 1) = (es i).put o.dst v
  soft : ∀ (i lo hi : Nat) (o : Oper), (i, lo, hi) ∈ softs T all → all[i]? = some o → ∀ m, lo ≤ m → m ≤ hi → ∃ v h1 h2, stepV C T all o (es i) (hs i) = some (v, h1) ∧ stepV C T all o (es i) (hs m) = some (v, h2)

mutual
theorem sameV_eq : ∀ {a b : AV}, sameV a b = true → a = b
  | .bad, b, h => by cases b <;> simp [sameV] at h ⊢
  | .bool x, b, h => by cases b <;> simp [sameV] at h ⊢; exact h
  | .int k x, b, h => by cases b <;> simp [sameV] at h ⊢; exact h
  | .str s, b, h => by cases b <;> simp [sameV] at h ⊢; exact h
  | .nilp, b, h => by cases b <;> simp [sameV] at h ⊢
  | .ptr x y, b, h => by cases b <;> simp [sameV] at h ⊢; exact h
  | .nils, b, h => by cases b <;> simp [sameV] at h ⊢
  | .sl .., b, h => by cases b <;> simp [sameV] at h ⊢; simp_all
  | .nilm, b, h => by cases b <;> simp [sameV] at h ⊢
  | .mp _, b, h => by cases b <;> simp [sameV] at h ⊢; exact h
  | .nilf, b, h => by cases b <;> simp [sameV] at h ⊢
  | .fn f as bs, b, h => by
    cases b <;> simp [sameV] at h ⊢
    exact ⟨h.1.1, sameL_eq h.1.2, sameL_eq h.2⟩
  | .agg as, b, h => by
    cases b <;> simp [sameV] at h ⊢
    exact sameL_eq h
  | .tup _, b, h => by cases b <;> simp [sameV] at h
  | .yld _, b, h => by cases b <;> simp [sameV] at h
  | .lst x a b cs, c, h => by
    cases c <;> simp [sameV] at h ⊢
    exact ⟨h.1.1.1, h.1.1.2, h.1.2, sameL_eq h.2⟩
  | .fp as, b, h => by
    cases b <;> simp [sameV] at h ⊢
    exact sameL_eq h
  | .mark _, b, h => by cases b <;> simp [sameV] at h
theorem sameL_eq : ∀ {as bs : List AV}, sameL as bs = true → as = bs
  | [], bs, h => by cases bs <;> simp [sameL] at h ⊢
  | a :: as, bs, h => by
    cases bs <;> simp [sameL] at h ⊢
    exact ⟨sameV_eq h.1, sameL_eq h.2⟩
end

theorem sameAt_get {C : Cf} {T : TT} {all : Array Oper} {o : Oper} {e : Env} {v : AV} {st : List (Env × AH)} : ∀ (n m : Nat), sameAt C T all o e v st n m = true →
    ∀ k, m ≤ k → k < m + n → ∃ p h2, st[k]? = some p ∧ stepV C T all o e p.2 = some (v, h2)
  | 0, m, _, k, h1, h2 => by omega
  | n + 1, m, h, k, h1, h2 => by
    simp only [sameAt] at h
    split at h
    · rename_i p hp
      split at h
      · rename_i q hq
        simp only [Bool.and_eq_true] at h
        by_cases e : k = m
        · subst e; exact ⟨p, q.2, hp, by rw [hq, sameV_eq h.1]⟩
        · exact sameAt_get n (m + 1) h.2 k (by omega) (by omega)
      · cases h
    · cases h

theorem softOk_get {C : Cf} {T : TT} {all : Array Oper} {st : List (Env × AH)} : ∀ {ss : List (Nat × Nat × Nat)}, softOk C T all st ss = true → ∀ {i lo hi : Nat} {o : Oper}, (i, lo, hi) ∈ ss → all[i]? = some o →
    ∃ p v h1, st[i]? = some p ∧ stepV C T all o p.1 p.2 = some (v, h1) ∧ ∀ k, lo ≤ k → k ≤ hi → ∃ p2 h2, st[k]? = some p2 ∧ stepV C T all o p.1 p2.2 = some (v, h2)
  | [], _, _, _, _, _, hm, _ => by cases hm
  | (i', lo', hi') :: ss, h, i, lo, hi, o, hm, ho => by
    simp only [softOk] at h
    split at h
    · rename_i o' p ho' hp
      split at h
      · rename_i q hq
        simp only [Bool.and_eq_true] at h
        rcases List.mem_cons.1 hm with e | hm
        · cases e
          rw [ho] at ho'; cases ho'
          exact ⟨p, q.1, q.2, hp, hq, fun k h1 h2 => sameAt_get _ _ h.1 k h1 (by omega)⟩
        · exact softOk_get h.2 hm ho
      · cases h
    · cases h

theorem opsTr_ops {C : Cf} {T : TT} {all : Array Oper} {r : AV × AH} : ∀ (l : List Oper) (e : Env) (h : AH) (tr : List (Env × AH)) (K : Env → AH → List (Env × AH) → Rs), opsTr C T all l e h tr K = some r →
    ∃ (es : Nat → Env) (hs : Nat → AH), es 0 = e ∧ hs 0 = h ∧ (∀ (j : Nat) (o : Oper), l[j]? = some o → ∃ v, stepV C T all o (es j) (hs j) = some (v, hs (j + 1)) ∧ es (j + 1) = (es j).put o.dst v) ∧
      K (es l.length) (hs l.length) (tr ++ (List.range (l.length + 1)).map fun j => (es j, hs j)) = some r
  | [], e, h, tr, K, hr => ⟨fun _ => e, fun _ => h, rfl, rfl, fun j o ho => by simp at ho, by simpa [opsTr] using hr⟩
  | o :: l, e, h, tr, K, hr => by
    simp only [opsTr] at hr
    obtain ⟨v, h', hv, hK⟩ := run_inv hr
    obtain ⟨es, hs, e1, e2, e3, e4⟩ := opsTr_ops l _ _ _ _ hK
    refine ⟨fun j => match j with | 0 => e | j + 1 => es j, fun j => match j with | 0 => h | j + 1 => hs j, rfl, rfl, ?_, ?_⟩
    · intro j o' ho
      cases j with
      | zero => simp at ho; subst ho; exact ⟨v, by unfold stepV; simpa only [e2] using hv, e1⟩
      | succ j => simp at ho; exact e3 j o' ho
    · rw [List.append_assoc] at e4
      rw [List.range_succ_eq_map]
      simpa [Function.comp_def] using e4

/-- A read's places. -/
theorem loOf_prop {T : TT} {all : Array Oper} {cl : List Nat} {i : Nat} : ∀ n, loOf T all cl i n = 0 ∨ ∃ j, j < n ∧ loOf T all cl i n = j + 1 ∧ heavy T all j = true ∧ (cl.getD i 0).testBit j = true
  | 0 => .inl rfl
  | n + 1 => by
    simp only [loOf]
    split
    · rename_i h
      simp only [Bool.and_eq_true] at h
      exact .inr ⟨n, by omega, rfl, h.2, h.1⟩
    · rcases loOf_prop (T := T) (all := all) (cl := cl) (i := i) n with h | ⟨j, h1, h2⟩
      · exact .inl h
      · exact .inr ⟨j, by omega, h2⟩
theorem hiOf_prop {T : TT} {all : Array Oper} {cl : List Nat} {i : Nat} : ∀ f k, hiOf T all cl i f k = k + f ∨ ∃ j, k ≤ j ∧ j < k + f ∧ hiOf T all cl i f k = j ∧ heavy T all j = true ∧ (cl.getD j 0).testBit i = true
  | 0, k => .inl rfl
  | f + 1, k => by
    simp only [hiOf]
    split
    · rename_i h
      simp only [Bool.and_eq_true] at h
      exact .inr ⟨k, by omega, by omega, rfl, h.2, h.1⟩
    · rcases hiOf_prop (T := T) (all := all) (cl := cl) (i := i) f (k + 1) with h | ⟨j, h1, h2, h3⟩
      · exact .inl (by omega)
      · exact .inr ⟨j, by omega, by omega, h3⟩

theorem clos_reach {all : Array Oper} {j i : Nat} (h : ((clos all.toList []).getD j 0).testBit i = true) : Reach (edgesAt all) j i :=
  clos_sound all all.toList [] ⟨[], by simp, rfl⟩ (by intro j i hb; simp at hb) j i h

theorem reach_lt {T : TT} {all : Array Oper} (hok : drawOk T all = true) {a b : Nat} (hr : Reach (edgesAt all) a b) : a < all.size → b < a := by
  have hedge : ∀ a b, a < all.size → b ∈ edgesAt all a → b < a := by
    intro a b ha hb
    have : edgesAt all a = edges all[a] := by simp [edgesAt, ha]
    rw [this] at hb
    exact drawOk_edges hok (j := a) (o := all[a]) (by simp [ha]) b hb
  induction hr with
  | base h => intro ha; exact hedge _ _ ha h
  | step h r ih => intro ha; have h1 := hedge _ _ ha h; have := ih (by omega); omega

theorem tr_exists {C : Cf} {T : TT} {all : Array Oper} {K : Env → AH → Rs} {r : AV × AH} : ∀ (k i : Nat) (e : Env) (h : AH), i + k = all.size → ops C T all (all.toList.drop i) e h K = some r →
    ∃ (es : Nat → Env) (hs : Nat → AH), es i = e ∧ hs i = h ∧ (∀ (j : Nat) (o : Oper), i ≤ j → all[j]? = some o → ∃ v, stepV C T all o (es j) (hs j) = some (v, hs (j + 1)) ∧ es (j + 1) = (es j).put o.dst v) ∧
      K (es all.size) (hs all.size) = some r
  | 0, i, e, h, hi, hr => by
    have : all.toList.drop i = [] := by rw [List.drop_eq_nil_iff]; simp; omega
    rw [this] at hr
    refine ⟨fun _ => e, fun _ => h, rfl, rfl, fun j o hj ho => ?_, hr⟩
    have : j < all.size := (Array.getElem?_eq_some_iff.1 ho).1
    omega
  | k + 1, i, e, h, hi, hr => by
    have hlt : i < all.size := by omega
    have hdrop : all.toList.drop i = all[i] :: all.toList.drop (i + 1) := by
      rw [List.drop_eq_getElem_cons (by simpa using hlt)]; simp
    rw [hdrop] at hr
    simp only [ops] at hr
    obtain ⟨v, h', hv, hK⟩ := run_inv hr
    obtain ⟨es, hs, e1, e2, e3, e4⟩ := tr_exists k (i + 1) _ _ (by omega) hK
    refine ⟨fun j => if j = i then e else es j, fun j => if j = i then h else hs j, by simp, by simp, fun j o hj ho => ?_, ?_⟩
    · by_cases hji : j = i
      · subst hji
        have hoe : o = all[j] := by simpa [hlt] using ho.symm
        subst hoe
        refine ⟨v, ?_, ?_⟩
        · simp only [if_true, Nat.succ_ne_self, if_false]
          rw [e2]; exact hv
        · simp only [if_true, Nat.succ_ne_self, if_false]
          rw [e1]
      · obtain ⟨u, hu, hes⟩ := e3 j o (by omega) ho
        have hj1 : j + 1 ≠ i := by omega
        refine ⟨u, ?_, ?_⟩
        · simp only [hji, hj1, if_false]; exact hu
        · simp only [hji, hj1, if_false]; exact hes
    · have hn : all.size ≠ i := by omega
      simp only [hn, if_false]; exact e4

section
variable {T : TT} {all : Array Oper}

def dstAt (all : Array Oper) (j : Nat) : Option Nat := (all[j]?).bind (·.dst)
/-- A slot's value when the operations of a set have been carried out. -/
def valR (all : Array Oper) (es : Nat → Env) (S : Nat → Bool) : Nat → Nat → AV
  | 0, t => es 0 t
  | j + 1, t => if S j = true ∧ dstAt all j = some t then es (j + 1) t else valR all es S j t

def hxR (T : TT) (all : Array Oper) (S : Nat → Bool) : Nat → Nat
  | 0 => 0
  | j + 1 => if S j = true ∧ heavy T all j = true then j + 1 else hxR T all S j

theorem valR_congr {es : Nat → Env} {S S' : Nat → Bool} {t : Nat} : ∀ n, (∀ j, j < n → dstAt all j = some t → S j = S' j) → valR all es S n t = valR all es S' n t
  | 0, _ => rfl
  | n + 1, h => by
    simp only [valR]
    have ih := valR_congr (es := es) n (fun j hj hd => h j (by omega) hd)
    by_cases hd : dstAt all n = some t
    · rw [h n (by omega) hd, ih]
    · rw [if_neg (fun x => hd x.2), if_neg (fun x => hd x.2), ih]

theorem valR_skip {es : Nat → Env} {S : Nat → Bool} {t i : Nat} : ∀ n, i ≤ n → (∀ j, i ≤ j → j < n → dstAt all j = some t → S j = false) → valR all es S n t = valR all es S i t
  | 0, h, _ => by have : i = 0 := by omega
                  subst this; rfl
  | n + 1, h, hs => by
    by_cases e : i = n + 1
    · subst e; rfl
    · simp only [valR]
      rw [if_neg, valR_skip n (by omega) (fun j h1 h2 h3 => hs j h1 (by omega) h3)]
      rintro ⟨h1, h2⟩
      rw [hs n (by omega) (by omega) h2] at h1
      cases h1

theorem hxR_skip {S : Nat → Bool} {i : Nat} : ∀ n, i ≤ n → (∀ j, i ≤ j → j < n → heavy T all j = true → S j = false) → hxR T all S n = hxR T all S i
  | 0, h, _ => by have : i = 0 := by omega
                  subst this; rfl
  | n + 1, h, hs => by
    by_cases e : i = n + 1
    · subst e; rfl
    · simp only [hxR]
      rw [if_neg, hxR_skip n (by omega) (fun j h1 h2 h3 => hs j h1 (by omega) h3)]
      rintro ⟨h1, h2⟩
      rw [hs n (by omega) (by omega) h2] at h1
      cases h1

theorem hxR_le {S : Nat → Bool} : ∀ n, hxR T all S n ≤ n
  | 0 => Nat.le_refl _
  | n + 1 => by
    simp only [hxR]; split
    · exact Nat.le_refl _
    · exact Nat.le_succ_of_le (hxR_le n)
end

section
variable {C : Cf} {T : TT} {all : Array Oper} {es : Nat → Env} {hs : Nat → AH} (tr : Tr C T all es hs)
include tr

theorem Tr.es_other {j t : Nat} (hd : dstAt all j ≠ some t) (hj : j < all.size) : es (j + 1) t = es j t := by
  obtain ⟨v, _, he⟩ := tr.step j all[j] (by simp [hj])
  rw [he]
  have hda : dstAt all j = all[j].dst := by simp [dstAt, hj]
  rw [hda] at hd
  cases hdd : all[j].dst with
  | none => rfl
  | some d =>
    simp only [Env.put, Env.set]
    cases hb : Nat.beq t d with
    | false => rfl
    | true => have := Nat.eq_of_beq_eq_true hb; subst this; exact absurd hdd hd

/-- With all earlier writers of a slot in the set, the slot holds what it held in the text's order. -/
theorem Tr.val_text {S : Nat → Bool} {t : Nat} : ∀ i, i ≤ all.size → (∀ j, j < i → dstAt all j = some t → S j = true) → valR all es S i t = es i t
  | 0, _, _ => rfl
  | i + 1, hi, h => by
    simp only [valR]
    by_cases hd : dstAt all i = some t
    · rw [if_pos ⟨h i (by omega) hd, hd⟩]
    · rw [if_neg (fun x => hd x.2), Tr.val_text i (by omega) (fun j hj => h j (by omega)), tr.es_other hd (by omega)]

theorem Tr.light {j : Nat} (hh : heavy T all j = false) (hj : j < all.size) : hs (j + 1) = hs j := by
  obtain ⟨v, hv, _⟩ := tr.step j all[j] (by simp [hj])
  have hc : clsAt T all j = clsOf T all[j].op := by simp [clsAt, hj]
  have key : ∀ v h', (outOf C T all[j] (es j) (hs j)).val (hs j) = some (v, h') → h' = hs j := by
    intro v h' hv
    unfold heavy at hh
    rw [hc] at hh
    cases hcc : clsOf T all[j].op with
    | pure => exact (out_pure hcc hv).1
    | read => exact (out_read (h2 := hs j) hcc hv (fun _ _ _ _ _ => rfl)).1
    | alloc => rw [hcc] at hh; cases hh
    | eff => rw [hcc] at hh; cases hh
  rw [stepV_iff] at hv
  split at hv
  · exact key _ _ hv
  · split at hv
    · exact key _ _ hv
    · exact hv.2
    · exact hv.elim

theorem Tr.alloc {j : Nat} (hh : clsAt T all j = .alloc) (hj : j < all.size) : AExt (hs j) (hs (j + 1)) := by
  obtain ⟨v, hv, _⟩ := tr.step j all[j] (by simp [hj])
  have hc : clsAt T all j = clsOf T all[j].op := by simp [clsAt, hj]
  rw [hc] at hh
  have key : ∀ v h', (outOf C T all[j] (es j) (hs j)).val (hs j) = some (v, h') → AExt (hs j) h' := by
    intro v h' hv
    obtain ⟨x, rfl⟩ := out_alloc hh hv
    exact AExt.alloc _ _
  rw [stepV_iff] at hv
  split at hv
  · exact key _ _ hv
  · split at hv
    · exact key _ _ hv
    · rw [hv.2]; exact AExt.refl _
    · exact hv.elim

theorem Tr.heap_same {S : Nat → Bool} : ∀ i, i ≤ all.size → (∀ j, j < i → heavy T all j = true → S j = true) → hs (hxR T all S i) = hs i
  | 0, _, _ => rfl
  | i + 1, hi, h => by
    simp only [hxR]
    cases hh : heavy T all i with
    | true => rw [if_pos ⟨h i (by omega) hh, rfl⟩]
    | false => rw [if_neg (by simp), Tr.heap_same i (by omega) (fun j hj => h j (by omega)), tr.light hh (by omega)]

/-- Between two places with no more than new blocks between them the one heap goes on as the other. -/
theorem Tr.ext {i : Nat} : ∀ k, i + k ≤ all.size → (∀ j, i ≤ j → j < i + k → clsAt T all j ≠ .eff) → AExt (hs i) (hs (i + k))
  | 0, _, _ => AExt.refl _
  | k + 1, hk, h => by
    have ih := Tr.ext (i := i) k (by omega) (fun j h1 h2 => h j h1 (by omega))
    refine ih.trans ?_
    have hne := h (i + k) (by omega) (by omega)
    cases hc : clsAt T all (i + k) with
    | eff => exact absurd hc hne
    | alloc => exact tr.alloc hc (by omega)
    | pure => rw [show i + (k + 1) = i + k + 1 from rfl, tr.light (by simp [heavy, hc]) (by omega)]; exact AExt.refl _
    | read => rw [show i + (k + 1) = i + k + 1 from rfl, tr.light (by simp [heavy, hc]) (by omega)]; exact AExt.refl _
end

section
variable {P : Program} {T : TT} (hT : TAgree P T) {B : BS P} {C : Cf} (hC : CallOK P B C) {N : Nat} {rf : Bool} {μ0 : Img} {w0 : World} (ro : Option Nat) {all : Array Oper}
  {es : Nat → Env} {hs : Nat → AH} (tr : Tr C T all es hs) (hok : drawOk T all = true)
  (hd : ∀ (i : Nat) (o : Oper) (d : Nat), all[i]? = some o → o.dst = some d → d < N)
include hT hC tr hok hd

def setOf (listed : Array Bool) : Nat → Bool := fun i => listed.getD i true

/-- The state when the operations of a set have been carried out, in whatever order. -/
structure DSt {P : Program} (B : BS P) (N : Nat) (rf : Bool) (μ0 : Img) (w0 : World) (T : TT) (all : Array Oper) (es : Nat → Env) (hs : Nat → AH) (S : Nat → Bool) (a : Act) (w : World) : Prop where
  st : St B N rf μ0 w0 (valR all es S all.size) (hs (hxR T all S all.size)) a w
  closed : ∀ j, j < all.size → S j = true → ∀ e ∈ edgesAt all j, S e = true
  wf : ∀ m, m ≤ hxR T all S all.size → ∀ b x, (hs m).get b = some x → b < (hs m).next

omit hT hC tr hd in
theorem before {S : Nat → Bool} (hcl : ∀ j, j < all.size → S j = true → ∀ e ∈ edgesAt all j, S e = true) {i j : Nat} (hj : j < all.size) (hr : Reach (edgesAt all) j i)
    (he : ∀ e ∈ edgesAt all j, S e = true) : S i = true := by
  have hlt : ∀ e ∈ edgesAt all j, e < all.size := by
    intro e hem
    have : edgesAt all j = edges all[j] := by simp [edgesAt, hj]
    rw [this] at hem
    have := drawOk_edges hok (j := j) (o := all[j]) (by simp [hj]) e hem
    omega
  have key := Reach.closed (S := fun j => j < all.size → S j = true) (E := edgesAt all) (fun j hSj e hem hel => by
    by_cases hjl : j < all.size
    · exact hcl j hjl (hSj hjl) e hem
    · have : edgesAt all j = [] := by simp [edgesAt, Array.getElem?_eq_none (Nat.le_of_not_lt hjl)]
      rw [this] at hem; cases hem) hr (fun e hem _ => he e hem)
  by_cases hi : i < all.size
  · exact key hi
  · -- an index past the end is no edge's
    exfalso
    have hlast : ∀ {a b : Nat}, Reach (edgesAt all) a b → a < all.size → b < a := by
      intro a b hr
      have hedge : ∀ a b, a < all.size → b ∈ edgesAt all a → b < a := by
        intro a b ha hb
        have : edgesAt all a = edges all[a] := by simp [edgesAt, ha]
        rw [this] at hb
        exact drawOk_edges hok (j := a) (o := all[a]) (by simp [ha]) b hb
      induction hr with
      | base h => intro ha; exact hedge _ _ ha h
      | step h r ih => intro ha; have h1 := hedge _ _ ha h; have := ih (by omega); omega
    have := hlast hr hj
    omega

/-- One more operation of an open region. -/
theorem draw_step {S : Nat → Bool} {a : Act} {w : World} (hst : DSt B N rf μ0 w0 T all es hs S a w) {i : Nat} (hi : i < all.size) (hiS : S i = false) (hready : ∀ e ∈ edgesAt all i, S e = true)
    (Q : Exit → Act → World → Prop) (next : Act → World → Prop)
    (hnext : ∀ a' w', DSt B N rf μ0 w0 T all es hs (fun j => if j = i then true else S j) a' w' → next a' w') :
    wpOpIn (WF ro) 0 P all Q i next a w := by
  have hgi : all[i]? = some all[i] := by simp [hi]
  have hda : ∀ j (hj : j < all.size), dstAt all j = all[j].dst := by intro j hj; simp [dstAt, hj]
  have hca : ∀ j (hj : j < all.size), clsAt T all j = clsOf T all[j].op := by intro j hj; simp [clsAt, hj]
  -- what must have come before, and what cannot have
  have hbef : ∀ j, j < i → Reach (edgesAt all) i j → S j = true := fun j _ hr => before hok hst.closed hi hr hready
  have haft : ∀ j, i < j → j < all.size → Reach (edgesAt all) j i → S j = false := by
    intro j hij hj hr
    cases hSj : S j with
    | false => rfl
    | true =>
      have := before hok hst.closed hj hr (hst.closed j hj hSj)
      rw [hiS] at this; cases this
  -- slots that it looks at or writes
  have hw1 : ∀ t, t ∈ names all all[i] → ∀ j, j < i → dstAt all j = some t → S j = true := by
    intro t ht j hj hdj
    have hjl : j < all.size := by omega
    have hp := drawOk_pairs hok (i := j) (j := i) (p := all[j]) (o := all[i]) (by simp [hjl]) hgi hj
    rcases hp.or with h | ⟨_, h, _⟩
    · exact hbef j hj h
    · rw [hda j hjl] at hdj; exact absurd ht (h t hdj)
  have hw2 : ∀ t, t ∈ names all all[i] → ∀ j, i ≤ j → j < all.size → dstAt all j = some t → S j = false := by
    intro t ht j hij hj hdj
    by_cases e : i = j
    · subst e; exact hiS
    · have hp := drawOk_pairs hok (i := i) (j := j) (p := all[i]) (o := all[j]) hgi (by simp [hj]) (by omega)
      rcases hp.or with h | ⟨_, _, h⟩
      · exact haft j (by omega) hj h
      · rw [hda j hj] at hdj; exact absurd ht (h t hdj)
  have hval : ∀ t ∈ names all all[i], valR all es S all.size t = es i t := by
    intro t ht
    rw [valR_skip all.size (Nat.le_of_lt hi) (fun j h1 h2 h3 => hw2 t ht j h1 h2 h3)]
    exact tr.val_text i (Nat.le_of_lt hi) (fun j hj hdj => hw1 t ht j hj hdj)
  have hlook : ∀ t ∈ all[i].looksAt all, valR all es S all.size t = es i t := fun t ht => hval t (by unfold names; exact List.mem_append_right _ ht)
  obtain ⟨v, hv, hes⟩ := tr.step i all[i] hgi
  -- heaps
  have hh1 : heavy T all i = true → ∀ j, j < i → heavy T all j = true → S j = true := by
    intro hhi j hj hhj
    have hjl : j < all.size := by omega
    have hp := drawOk_pairs hok (i := j) (j := i) (p := all[j]) (o := all[i]) (by simp [hjl]) hgi hj
    rcases hp.or with h | ⟨h, _⟩
    · exact hbef j hj h
    · unfold heavy at hhi hhj
      rw [hca i hi] at hhi; rw [hca j hjl] at hhj
      cases h1 : clsOf T all[j].op <;> cases h2 : clsOf T all[i].op <;> rw [h1] at h hhj <;> rw [h2] at h hhi <;> simp [mayPass2, mayPass] at h hhi hhj
  have hh2 : heavy T all i = true → ∀ j, i ≤ j → j < all.size → heavy T all j = true → S j = false := by
    intro hhi j hij hj hhj
    by_cases e : i = j
    · subst e; exact hiS
    · have hp := drawOk_pairs hok (i := i) (j := j) (p := all[i]) (o := all[j]) hgi (by simp [hj]) (by omega)
      rcases hp.or with h | ⟨h, _⟩
      · exact haft j (by omega) hj h
      · unfold heavy at hhi hhj
        rw [hca i hi] at hhi; rw [hca j hj] at hhj
        cases h1 : clsOf T all[i].op <;> cases h2 : clsOf T all[j].op <;> rw [h1] at h hhi <;> rw [h2] at h hhj <;> simp [mayPass2, mayPass] at h hhi hhj
  -- the set behind the step
  have hS' : ∀ j, j ≠ i → (if j = i then true else S j) = S j := fun j hj => if_neg hj
  have hval' : ∀ (v' : AV), v' = v → ∀ t, valR all es (fun j => if j = i then true else S j) all.size t = (Env.put (valR all es S all.size) all[i].dst v') t := by
    intro v' hv' t
    subst hv'
    cases hdi : all[i].dst with
    | none =>
      simp only [Env.put]
      refine valR_congr all.size fun j hj hdj => ?_
      by_cases e : j = i
      · subst e; rw [hda j hj, hdi] at hdj; cases hdj
      · exact if_neg e
    | some d =>
      simp only [Env.put, Env.set]
      cases hb : Nat.beq t d with
      | true =>
        have := Nat.eq_of_beq_eq_true hb
        subst this
        rw [valR_skip (i := i + 1) all.size (by omega) (fun j h1 h2 h3 => by
          rw [if_neg (by omega)]
          exact hw2 t (by unfold names; rw [hdi]; simp) j (by omega) h2 h3)]
        simp only [valR]
        rw [if_pos ⟨by simp, by rw [hda i hi, hdi]⟩, hes, hdi]
        simp [Env.put, Env.set]
      | false =>
        have hne := Nat.ne_of_beq_eq_false hb
        refine valR_congr all.size fun j hj hdj => ?_
        by_cases e : j = i
        · subst e; rw [hda j hj, hdi] at hdj; cases hdj; exact absurd rfl hne
        · exact if_neg e
  have hclosed' : ∀ j, j < all.size → (if j = i then true else S j) = true → ∀ e ∈ edgesAt all j, (if e = i then true else S e) = true := by
    intro j hj hSj e hem
    by_cases e1 : e = i
    · exact if_pos e1
    · rw [if_neg e1]
      by_cases e2 : j = i
      · subst e2; exact hready e hem
      · rw [if_neg e2] at hSj; exact hst.closed j hj hSj e hem
  -- the step itself, at the heap as it now stands
  obtain ⟨h2, hv2, hheap, hwf⟩ : ∃ h2, stepV C T all all[i] (valR all es S all.size) (hs (hxR T all S all.size)) = some (v, h2) ∧ h2 = hs (hxR T all (fun j => if j = i then true else S j) all.size) ∧
      (∀ m, m ≤ hxR T all (fun j => if j = i then true else S j) all.size → m ≤ hxR T all S all.size ∨ (hs m = hs (hxR T all S all.size)) ∨ m = i + 1 ∧ heavy T all i = true) := by
    rw [stepV_congr hlook]
    cases hhi : heavy T all i with
    | true =>
      have e1 : hxR T all S all.size = hxR T all S i := hxR_skip all.size (Nat.le_of_lt hi) (fun j a b c => hh2 hhi j a b c)
      have e2 : hs (hxR T all S all.size) = hs i := by rw [e1]; exact tr.heap_same i (Nat.le_of_lt hi) (fun j hj hhj => hh1 hhi j hj hhj)
      have e3 : hxR T all (fun j => if j = i then true else S j) all.size = i + 1 := by
        rw [hxR_skip (i := i + 1) all.size (by omega) (fun j h1 h2 h3 => by rw [if_neg (by omega)]; exact hh2 hhi j (by omega) h2 h3)]
        simp only [hxR]
        rw [if_pos ⟨by simp, hhi⟩]
      refine ⟨hs (i + 1), by rw [e2]; exact hv, by rw [e3], fun m hm => ?_⟩
      rw [e3] at hm
      by_cases hmi : m = i + 1
      · exact .inr (.inr ⟨hmi, rfl⟩)
      · -- no heavy one between the last of the set and i
        by_cases hml : m ≤ hxR T all S all.size
        · exact .inl hml
        · refine .inr (.inl ?_)
          rw [e2]
          have hlight : ∀ j, m ≤ j → j < i → heavy T all j = false := by
            intro j h1 h2
            cases hhj : heavy T all j with
            | false => rfl
            | true =>
              have hSj := hh1 hhi j h2 hhj
              have : j + 1 ≤ hxR T all S all.size := by
                have hmono : ∀ n, j + 1 ≤ n → n ≤ all.size → j + 1 ≤ hxR T all S n := by
                  intro n
                  induction n with
                  | zero => intro h; omega
                  | succ n ih =>
                    intro hn hnl
                    simp only [hxR]
                    by_cases hc : S n = true ∧ heavy T all n = true
                    · rw [if_pos hc]; omega
                    · rw [if_neg hc]
                      by_cases e : n = j
                      · subst e; exact absurd ⟨hSj, hhj⟩ hc
                      · exact ih (by omega) (by omega)
                exact hmono all.size (by omega) (Nat.le_refl _)
              omega
          have : ∀ k, m + k ≤ i → hs (m + k) = hs m := by
            intro k
            induction k with
            | zero => intro _; rfl
            | succ k ih => intro hk; rw [show m + (k + 1) = m + k + 1 from rfl, tr.light (hlight _ (by omega) (by omega)) (by omega)]; exact ih (by omega)
          have := this (i - m) (by omega)
          rw [show m + (i - m) = i by omega] at this
          exact this.symm
    | false =>
      have e3 : hxR T all (fun j => if j = i then true else S j) all.size = hxR T all S all.size := by
        have : ∀ n, hxR T all (fun j => if j = i then true else S j) n = hxR T all S n := by
          intro n
          induction n with
          | zero => rfl
          | succ n ih =>
            simp only [hxR]
            by_cases e : n = i
            · subst e; rw [if_neg (by simp [hhi]), if_neg (by simp [hhi]), ih]
            · have e0 : (if n = i then true else S n) = S n := if_neg e
              simp only [e0, ih]
        exact this _
      refine ⟨hs (hxR T all S all.size), ?_, by rw [e3], fun m hm => .inl (by rw [← e3]; exact hm)⟩
      have hlast0 : hxR T all S all.size ≠ 0 → S (hxR T all S all.size - 1) = true ∧ heavy T all (hxR T all S all.size - 1) = true := by
        intro hm0
        have : ∀ n m, m ≠ 0 → hxR T all S n = m → S (m - 1) = true ∧ heavy T all (m - 1) = true := by
          intro n
          induction n with
          | zero => intro m hm0 h; simp [hxR] at h; omega
          | succ n ih =>
            intro m hm0 h
            simp only [hxR] at h
            by_cases hc : S n = true ∧ heavy T all n = true
            · rw [if_pos hc] at h; subst h; simpa using hc
            · rw [if_neg hc] at h; exact ih m hm0 h
        exact this all.size _ hm0 rfl
      have hmax0 : ∀ j, j < all.size → S j = true → heavy T all j = true → j < hxR T all S all.size := by
        intro j hj hSj hhj
        have : ∀ n, j < n → n ≤ all.size → j < hxR T all S n := by
          intro n
          induction n with
          | zero => intro h; omega
          | succ n ih =>
            intro hn hnl
            simp only [hxR]
            by_cases hc : S n = true ∧ heavy T all n = true
            · rw [if_pos hc]; omega
            · rw [if_neg hc]
              by_cases e : n = j
              · subst e; exact absurd ⟨hSj, hhj⟩ hc
              · exact ih (by omega) (by omega)
        exact this all.size hj (Nat.le_refl _)
      cases hsf : isSoft T all (clos all.toList []) i with
      | true =>
        have hmem : (i, loOf T all (clos all.toList []) i i, hiOf T all (clos all.toList []) i (all.size - (i + 1)) (i + 1)) ∈ softs T all := by
          unfold softs
          refine List.mem_map.2 ⟨i, ?_, rfl⟩
          rw [List.mem_filter]
          exact ⟨by simp [hi], hsf⟩
        have hlo : loOf T all (clos all.toList []) i i ≤ hxR T all S all.size := by
          rcases loOf_prop (T := T) (all := all) (cl := clos all.toList []) (i := i) i with h | ⟨j, hj, h, hhj, hb⟩
          · omega
          · have := hmax0 j (by omega) (hbef j hj (clos_reach hb)) hhj
            omega
        have hhiB : hxR T all S all.size ≤ hiOf T all (clos all.toList []) i (all.size - (i + 1)) (i + 1) := by
          have hle := hxR_le (T := T) (all := all) (S := S) all.size
          rcases hiOf_prop (T := T) (all := all) (cl := clos all.toList []) (i := i) (all.size - (i + 1)) (i + 1) with h | ⟨j, hj1, hj2, h, hhj, hb⟩
          · omega
          · rw [h]
            refine Nat.le_of_not_lt fun hlt => ?_
            have hjl : j < all.size := by omega
            have hSj : S j = false := haft j (by omega) hjl (clos_reach hb)
            obtain ⟨hSm, hhm⟩ := hlast0 (by omega)
            generalize hm : hxR T all S all.size = m at *
            by_cases e : j = m - 1
            · rw [e] at hSj; rw [hSj] at hSm; cases hSm
            · have hml : m - 1 < all.size := by omega
              have hp2 := drawOk_pairs hok (i := j) (j := m - 1) (p := all[j]) (o := all[m - 1]) (by simp [hjl]) (by simp [hml]) (by omega)
              rcases hp2.or with h | ⟨h, _⟩
              · have := before hok hst.closed hml h (hst.closed _ hml hSm)
                rw [hSj] at this; cases this
              · unfold heavy at hhm hhj
                rw [hca (m - 1) hml] at hhm
                rw [hca j hjl] at hhj
                cases h3 : clsOf T all[m - 1].op <;> cases h4 : clsOf T all[j].op <;> rw [h3] at h hhm <;> rw [h4] at h hhj <;> simp [mayPass2, mayPass] at h hhm hhj
        obtain ⟨v1, h1, h2, hs1, hs2⟩ := tr.soft i _ _ all[i] hmem hgi _ hlo hhiB
        rw [hv] at hs1
        cases hs1
        have hrd : clsOf T all[i].op = .read := by
          unfold isSoft isRead at hsf
          rw [hca i hi] at hsf
          cases hcc : clsOf T all[i].op <;> rw [hcc] at hsf <;> simp at hsf ⊢
        have : h2 = hs (hxR T all S all.size) := by
          rw [stepV_iff] at hs2
          split at hs2
          · exact (out_read (h2 := hs (hxR T all S all.size)) hrd hs2 (fun _ _ _ _ _ => rfl)).1
          · split at hs2
            · exact (out_read (h2 := hs (hxR T all S all.size)) hrd hs2 (fun _ _ _ _ _ => rfl)).1
            · exact hs2.2
            · exact hs2.elim
        rw [← this]; rw [this] at hs2 ⊢; exact hs2
      | false =>
      have hns : clsOf T all[i].op = .read → ∀ j (hj : j < all.size), clsOf T all[j].op = .eff → Reach (edgesAt all) j i ∨ Reach (edgesAt all) i j := by
        intro hrd j hj hje
        unfold isSoft at hsf
        rw [Bool.and_eq_false_iff] at hsf
        rcases hsf with hsf | hsf
        · unfold isRead at hsf; rw [hca i hi, hrd] at hsf; cases hsf
        · rw [List.any_eq_false] at hsf
          have := hsf j (by simp [hj])
          have he : isEff T all j = true := by unfold isEff; rw [hca j hj, hje]
          rw [he] at this
          simp only [Bool.true_and, Bool.and_eq_true, Bool.not_eq_true', not_and, Bool.not_eq_false] at this
          cases hb : ((clos all.toList []).getD i 0).testBit j with
          | true => exact .inr (clos_reach hb)
          | false => exact .inl (clos_reach (this hb))
      rw [tr.light hhi hi] at hv
      have key : (outOf C T all[i] (es i) (hs i)).val (hs i) = some (v, hs i) → (outOf C T all[i] (es i) (hs (hxR T all S all.size))).val (hs (hxR T all S all.size)) = some (v, hs (hxR T all S all.size)) := by
        intro hv
        cases hcc : clsOf T all[i].op with
        | alloc => simp [heavy, hca i hi, hcc] at hhi
        | eff => simp [heavy, hca i hi, hcc] at hhi
        | pure => exact (out_pure hcc hv).2 _
        | read =>
          refine (out_read hcc hv ?_).2
          intro x hx b hb hex
          obtain ⟨y, hy⟩ := hex
          -- the block is one that is there now
          obtain ⟨μ, _, he, hr, _⟩ := hst.st
          have hevx : ev (es i) x = ev (valR all es S all.size) x := by
            refine ev_congr fun t ht => (hlook t ?_).symm
            subst ht
            unfold Oper.looksAt
            refine List.mem_append_left _ ?_
            rw [List.mem_filterMap]
            exact ⟨.tmp t, by simpa using hx, rfl⟩
          have hbn : b < (hs (hxR T all S all.size)).next := by
            have hvr := ev_sim he x
            rw [← hevx] at hvr
            rcases hb with ⟨n, hb⟩ | ⟨a1, a2, a3, a4, a5, hb⟩ | hb
            · rw [hb] at hvr; obtain ⟨cb, δ, N, hm, _⟩ := hvr.ptr_inv; exact (hr.dom b _ hm).1
            · rw [hb] at hvr; obtain ⟨cb, δ, N, _, _, hm, _⟩ := hvr.sl_inv; exact (hr.dom b _ hm).1
            · rw [hb] at hvr; obtain ⟨cb, δ, N, hm, _⟩ := hvr.mp_inv; exact (hr.dom b _ hm).1
          have hmle := hxR_le (T := T) (all := all) (S := S) all.size
          generalize hm : hxR T all S all.size = m at *
          have hlast : m ≠ 0 → S (m - 1) = true ∧ heavy T all (m - 1) = true := by
            intro hm0
            have : ∀ n, hxR T all S n = m → S (m - 1) = true ∧ heavy T all (m - 1) = true := by
              intro n
              induction n with
              | zero => intro h; simp [hxR] at h; omega
              | succ n ih =>
                intro h
                simp only [hxR] at h
                by_cases hc : S n = true ∧ heavy T all n = true
                · rw [if_pos hc] at h; subst h; simpa using hc
                · rw [if_neg hc] at h; exact ih h
            exact this _ hm
          have hmax : ∀ j, j < all.size → S j = true → heavy T all j = true → j < m := by
            intro j hj hSj hhj
            have : ∀ n, j < n → n ≤ all.size → j < hxR T all S n := by
              intro n
              induction n with
              | zero => intro h; omega
              | succ n ih =>
                intro hn hnl
                simp only [hxR]
                by_cases hc : S n = true ∧ heavy T all n = true
                · rw [if_pos hc]; omega
                · rw [if_neg hc]
                  by_cases e : n = j
                  · subst e; exact absurd ⟨hSj, hhj⟩ hc
                  · exact ih (by omega) (by omega)
            have := this all.size hj (Nat.le_refl _)
            omega
          by_cases him : i ≤ m
          · have hext := tr.ext (i := i) (m - i) (by omega) (fun j h1 h2 hje => by
              have hjl : j < all.size := by omega
              have hjc := hca j hjl
              rw [hje] at hjc
              have hij : i ≠ j := by intro e; subst e; rw [hcc] at hjc; cases hjc
              have hp := drawOk_pairs hok (i := i) (j := j) (p := all[i]) (o := all[j]) hgi (by simp [hjl]) (by omega)
              have hSj : S j = false := by
                rcases hns hcc j hjl hjc.symm with h | h
                · exact haft j (by omega) hjl h
                · have := reach_lt hok h hi; omega
              obtain ⟨hSm, hhm⟩ := hlast (by omega)
              by_cases e : j = m - 1
              · rw [e] at hSj; rw [hSj] at hSm; cases hSm
              · have hml : m - 1 < all.size := by omega
                have hp2 := drawOk_pairs hok (i := j) (j := m - 1) (p := all[j]) (o := all[m - 1]) (by simp [hjl]) (by simp [hml]) (by omega)
                rcases hp2.or with h | ⟨h, _⟩
                · have := before hok hst.closed hml h (hst.closed _ hml hSm)
                  rw [hSj] at this; cases this
                · rw [← hjc] at h
                  unfold heavy at hhm
                  rw [hca (m - 1) hml] at hhm
                  cases h3 : clsOf T all[m - 1].op <;> rw [h3] at h hhm <;> simp [mayPass2, mayPass] at h hhm)
            rw [show i + (m - i) = m by omega] at hext
            exact hext.get b (hst.wf i (by rw [hm]; exact him) b y hy)
          · have hext := tr.ext (i := m) (i - m) (by omega) (fun j h1 h2 hje => by
              have hjl : j < all.size := by omega
              have hjc := hca j hjl
              rw [hje] at hjc
              have hp := drawOk_pairs hok (i := j) (j := i) (p := all[j]) (o := all[i]) (by simp [hjl]) hgi (by omega)
              rcases hns hcc j hjl hjc.symm with h | h
              · have := reach_lt hok h hjl; omega
              · have hSj := hbef j (by omega) h
                have := hmax j hjl hSj (by simp [heavy, hje])
                omega)
            rw [show m + (i - m) = i by omega] at hext
            exact (hext.get b hbn).symm
      rw [stepV_iff] at hv ⊢
      cases hg : guardOf all all[i] (es i) with
      | none => rw [hg] at hv; exact key hv
      | some p =>
        rw [hg] at hv
        simp only at hv ⊢
        cases hw : wants p.1 p.2 with
        | none => rw [hw] at hv; exact hv.elim
        | some b =>
          rw [hw] at hv
          cases b with
          | true => exact key hv
          | false => exact ⟨hv.1, by simp⟩
  unfold wpOpIn
  rw [hgi]
  simp only
  refine step_sim hT hC ro hst.st (r := (v, h2)) (K := fun v h => some (v, h)) hv2 (fun d hd' => hd i _ d hgi hd') Q next ?_
  intro v1 h1 a' w' he hst'
  cases he
  refine hnext a' w' ⟨?_, hclosed', ?_⟩
  · have : valR all es (fun j => if j = i then true else S j) all.size = Env.put (valR all es S all.size) all[i].dst v := funext fun t => hval' v rfl t
    rw [this, ← hheap]
    exact hst'
  · intro m hm b x hb
    rcases hwf m hm with h | h | ⟨h, hhi⟩
    · exact hst.wf m h b x hb
    · rw [h] at hb ⊢; exact hst.wf _ (Nat.le_refl _) b x hb
    · subst h
      obtain ⟨μ, _, _, hr, _⟩ := hst'
      have e3 : hxR T all (fun j => if j = i then true else S j) all.size = i + 1 := by
        rw [hxR_skip (i := i + 1) all.size (by omega) (fun j h1 h2 h3 => by rw [if_neg (by omega)]; exact hh2 hhi j (by omega) h2 h3)]
        simp only [hxR]
        rw [if_pos ⟨by simp, hhi⟩]
      rw [e3] at hheap
      rw [← hheap] at hb ⊢
      exact (hr.blk b x hb).1

theorem draw_any {Q : Exit → Act → World → Prop} (hQ : ∀ a w, St B N rf μ0 w0 (es all.size) (hs all.size) a w → Q .normal a w) :
    ∀ (fuel : Nat) (listed : Array Bool) (a : Act) (w : World), listed.size = all.size → listed.toList.count false ≤ fuel → DSt B N rf μ0 w0 T all es hs (setOf listed) a w →
      wpAnyIn (WF ro) 0 P .any all Q fuel listed a w := by
  have hmem : ∀ (listed : Array Bool) (i : Nat), listed.size = all.size → i ∈ Region.ready .any all listed → i < all.size ∧ setOf listed i = false ∧ ∀ e ∈ edgesAt all i, setOf listed e = true := by
    intro listed i hsz hi
    unfold Region.ready at hi
    rw [List.mem_filter] at hi
    obtain ⟨hi, hc⟩ := hi
    rw [List.mem_range] at hi
    simp only [Bool.and_eq_true, Bool.not_eq_true'] at hc
    refine ⟨hi, hc.1, ?_⟩
    have hg : all[i]? = some all[i] := by simp [hi]
    have he : edgesAt all i = edges all[i] := by simp [edgesAt, hi]
    rw [he]
    intro e hem
    rw [hg] at hc
    have hc2 : (all[i].after.all fun e => !Region.binds .any e || listed.getD e.on false) = true := by simpa using hc.2
    unfold edges at hem
    rw [List.mem_map] at hem
    obtain ⟨ed, hed, rfl⟩ := hem
    rw [List.mem_filter] at hed
    have := (Array.all_eq_true_iff_forall_mem.1 hc2) ed (by simpa using hed.1)
    rw [hed.2] at this
    simp only [Bool.not_true, Bool.false_or] at this
    have hlt : ed.on < listed.size := by
      by_cases h : ed.on < listed.size
      · exact h
      · rw [Array.getD_eq_getD_getElem?, Array.getElem?_eq_none (by omega)] at this; simp at this
    unfold setOf
    rw [Array.getD_eq_getD_getElem?] at this ⊢
    simp only [Array.getElem?_eq_getElem hlt, Option.getD_some] at this ⊢
    exact this
  have hdone : ∀ (listed : Array Bool) (a : Act) (w : World), listed.size = all.size → Region.ready .any all listed = [] → DSt B N rf μ0 w0 T all es hs (setOf listed) a w → Q .normal a w := by
    intro listed a w hsz hnil hst
    have hall : ∀ j, j < all.size → setOf listed j = true := by
      intro j
      induction j using Nat.strongRecOn with
      | _ j ih =>
        intro hj
        cases hS : setOf listed j with
        | true => rfl
        | false =>
          exfalso
          have : j ∈ Region.ready .any all listed := by
            unfold Region.ready
            rw [List.mem_filter]
            refine ⟨by simp [hj], ?_⟩
            simp only [Bool.and_eq_true, Bool.not_eq_true']
            refine ⟨hS, ?_⟩
            have hg : all[j]? = some all[j] := by simp [hj]
            rw [hg]
            simp only [Option.map_some, Option.getD_some]
            rw [Array.all_eq_true_iff_forall_mem]
            intro ed hed
            cases hb : Region.binds .any ed with
            | false => rfl
            | true =>
              simp only [Bool.not_true, Bool.false_or]
              have hem : ed.on ∈ edges all[j] := by
                unfold edges
                rw [List.mem_map]
                exact ⟨ed, by rw [List.mem_filter]; exact ⟨by simpa using hed, hb⟩, rfl⟩
              have hlt := drawOk_edges hok (j := j) (o := all[j]) hg _ hem
              have := ih ed.on hlt (by omega)
              unfold setOf at this
              have hl2 : ed.on < listed.size := by omega
              rw [Array.getD_eq_getD_getElem?] at this ⊢
              simp only [Array.getElem?_eq_getElem hl2, Option.getD_some] at this ⊢
              exact this
          rw [hnil] at this; cases this
    have h1 : valR all es (setOf listed) all.size = es all.size := funext fun t => tr.val_text all.size (Nat.le_refl _) (fun j hj _ => hall j hj)
    have h2 : hs (hxR T all (setOf listed) all.size) = hs all.size := tr.heap_same all.size (Nat.le_refl _) (fun j hj _ => hall j hj)
    have := hst.st
    rw [h1, h2] at this
    exact hQ a w this
  intro fuel
  induction fuel with
  | zero =>
    intro listed a w hsz hcnt hst
    have hnil : Region.ready .any all listed = [] := by
      cases hr : Region.ready .any all listed with
      | nil => rfl
      | cons i l =>
        exfalso
        obtain ⟨hi, hS, _⟩ := hmem listed i hsz (by rw [hr]; simp)
        have : listed.toList.count false = 0 := by omega
        rw [List.count_eq_zero] at this
        apply this
        unfold setOf at hS
        have hl : i < listed.size := by omega
        rw [Array.getD_eq_getD_getElem?, Array.getElem?_eq_getElem hl, Option.getD_some] at hS
        rw [← hS]; simp
    exact ⟨hnil, hdone listed a w hsz hnil hst⟩
  | succ fuel ih =>
    intro listed a w hsz hcnt hst
    refine ⟨fun hnil => hdone listed a w hsz hnil hst, fun i hi => ?_⟩
    obtain ⟨hil, hiS, hready⟩ := hmem listed i hsz hi
    refine draw_step hT hC ro tr hok hd hst hil hiS hready Q _ ?_
    intro a' w' hst'
    have hl : i < listed.size := by omega
    refine ih (listed.setIfInBounds i true) a' w' (by simp [hsz]) ?_ ?_
    · rw [Array.toList_setIfInBounds]
      unfold setOf at hiS
      rw [Array.getD_eq_getD_getElem?, Array.getElem?_eq_getElem hl, Option.getD_some] at hiS
      have hil2 : i < listed.toList.length := by simpa using hl
      have h3 : listed.toList[i] = false := by simpa using hiS
      have h4 : listed.toList.count false = (listed.toList.take i).count false + 1 + (listed.toList.drop (i + 1)).count false := by
        conv => lhs; rw [← List.take_append_drop i listed.toList, List.drop_eq_getElem_cons hil2, h3]
        rw [List.count_append, List.count_cons_self]; omega
      have h5 : (listed.toList.set i true).count false = (listed.toList.take i).count false + (listed.toList.drop (i + 1)).count false := by
        rw [List.set_eq_take_append_cons_drop, if_pos hil2, List.count_append, List.count_cons_of_ne (by simp)]
      omega
    · have : setOf (listed.setIfInBounds i true) = fun j => if j = i then true else setOf listed j := by
        funext j
        unfold setOf
        by_cases e : j = i
        · subst e; simp [Array.getD, hl]
        · rw [if_neg e, Array.getD_eq_getD_getElem?, Array.getElem?_setIfInBounds_ne (fun e2 => e e2.symm), ← Array.getD_eq_getD_getElem?]
      rw [this]; exact hst'

end

end Go.AM
