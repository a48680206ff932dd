/- A link: the first two parts of a step, begun: who asks. Own work. -/
import Derived.Test.YtghkgkjbdfnimaaPbgF
namespace Go.AM.X
open Go Go.AM Go.Proofs Go.AM.Sx
set_option maxHeartbeats 6400000
set_option maxRecDepth 100000
set_option linter.unusedSimpArgs false
set_option linter.unusedVariables false
theorem LkOk.keep {h h2 : AH} {own : Nat → Nat} {p : Nat} {lo hi : Int} {sv : AV} {M : List Sm} (hL : LkOk h own p lo hi sv M) (hn : h.next ≤ h2.next) (hk : ∀ c, c < h.next → own c ≠ 0 → h2.get c = h.get c) : LkOk h2 own p lo hi sv M :=
  { lt := Nat.lt_of_lt_of_le hL.lt hn, op := hL.op, g := by obtain ⟨fr, g⟩ := hL.g; exact ⟨fr, (hk p hL.lt (by rw [hL.op]; decide)).trans g⟩, r := hL.r.keep hn fun b o l k z x e => hk b (hL.r.lt e) (by rw [(hL.rx _ _ _ _ _ _ e).1]; decide), rx := hL.rx, s := fun i m hm => (hL.s i m hm).keep hn fun c hc ho => ⟨hk c hc (by omega), rfl⟩, nw := fun c hc => hL.nw c (Nat.le_trans hn hc) }
/-- A row that is none of the link's. -/
def Out (own : Nat → Nat) (v : AV) : Prop := ∀ b o l k z x, v = .sl b o l k z x → own b = 0
def iE (i : Nat) : List AV := [.int .i64 (i : Nat)]
theorem iE_len (i : Nat) : (iE i).length = 1 := rfl
/-- A number comes behind a row beside a link. -/
theorem LkOk.pushI {h : AH} {own : Nat → Nat} {p : Nat} {lo hi : Int} {sv : AV} {M : List Sm} (hL : LkOk h own p lo hi sv M) {v : AV} {A : List Nat} (hr : RowC 1 h v A.length (fl iE A)) (ho : Out own v) (i : Nat) (hA : A.length ≤ 1000000) :
    ∃ v' h2, aAppend T 22 22 v (.sl h.next 0 1 1 1 true) (h.alloc (.cells [.int .i64 (i : Nat)] .own)) = some (v', h2) ∧ RowC 1 h2 v' (A ++ [i]).length (fl iE (A ++ [i])) ∧ LkOk h2 own p lo hi sv M ∧ Out own v' ∧ h.next + 1 ≤ h2.next ∧ (∀ c, c < h.next → offRow v c → h2.get c = h.get c) ∧
      (∀ b o l k z x, v' = .sl b o l k z x → h.next ≤ b ∨ ∃ o l k z x, v = .sl b o l k z x) := by
  obtain ⟨v', h2, q1, q2, q3, q4, q5⟩ := hr.push (new := [.int .i64 (i : Nat)]) T22 d22 T3 s3 (by decide) (by rw [b3]; decide) rfl rfl (by rw [b3]; simp [maxBytes]; omega)
  have hcs : fl iE A ++ [.int .i64 (i : Nat)] = fl iE (A ++ [i]) := by rw [fl_app]; rfl
  rw [hcs, show A.length + 1 = (A ++ [i]).length by simp] at q2
  refine ⟨v', h2, q1, q2, hL.keep (by omega) fun c hc hoc => q4 c hc fun b o l k z x e g => hoc (by rw [g]; exact ho _ _ _ _ _ _ e), fun b o l k z x e => ?_, q3, q4, q5⟩
  rcases q5 _ _ _ _ _ _ e with g | ⟨_, _, _, _, _, g⟩
  · exact hL.nw b g
  · exact ho _ _ _ _ _ _ g
theorem loadI {h : AH} {v : AV} {A : List Nat} {i j : Nat} (hr : RowC 1 h v A.length (fl iE A)) (hj : A[i]? = some j) :
    ∃ b cs kk, aIndexAddr T 22 v (.int .i64 (i : Nat)) = some (.ptr b i) ∧ h.get b = some (.cells cs kk) ∧ cs[i]? = some (.int .i64 (j : Nat)) := by
  obtain ⟨b, cs, kk, h1, h2, h3, h4⟩ := loadR iE 1 iE_len T22 d22 T3 s3 hr hj
  rw [Nat.mul_one] at h1 h3 h4
  have w := congrArg (fun l => l[0]?) h4
  simp [List.getElem?_take, List.getElem?_drop, iE] at w
  exact ⟨b, cs, kk, h1, h2, w⟩
def bE (b : Bool) : List AV := [.bool b]
theorem bE_len (b : Bool) : (bE b).length = 1 := rfl
theorem loadB {h : AH} {v : AV} {W : List Bool} {i : Nat} {x : Bool} (hr : RowC 1 h v W.length (fl bE W)) (hj : W[i]? = some x) :
    ∃ b cs kk, aIndexAddr T 81 v (.int .i64 (i : Nat)) = some (.ptr b i) ∧ h.get b = some (.cells cs kk) ∧ cs[i]? = some (.bool x) := by
  obtain ⟨b, cs, kk, h1, h2, h3, h4⟩ := loadR bE 1 bE_len T81 d81 T4 s4 hr hj
  rw [Nat.mul_one] at h1 h3 h4
  have w := congrArg (fun l => l[0]?) h4
  simp [List.getElem?_take, List.getElem?_drop, bE] at w
  exact ⟨b, cs, kk, h1, h2, w⟩
theorem mkBools {h : AH} {n : Nat} (hn : n ≤ 1000) : ∃ v h2, aMakeSlice T 81 (.int .i64 (n : Nat)) (.int .i64 (n : Nat)) h = some (v, h2) ∧ RowC 1 h2 v (List.replicate n false).length (fl bE (List.replicate n false)) ∧ Grow h h2 ∧ Fresh h v := by
  have hz : repl tt4.zero n = fl bE (List.replicate n false) := by
    rw [z4]
    induction n with
    | zero => rfl
    | succ n ih => rw [List.replicate_succ, repl, ih (by omega)]; rfl
  have hlen : (fl bE (List.replicate n false)).length = n := by rw [fl_len bE 1 bE_len, List.length_replicate]; omega
  refine ⟨.sl h.next 0 n n 1 true, h.alloc (.cells (fl bE (List.replicate n false)) .own), ?_, .inr ⟨h.next, n, true, [], by rw [List.length_replicate], by rw [hlen, List.length_replicate]; omega, by rw [hlen]; simp, ?_, ?_⟩, Grow.alloc _ _, fun b o l k z x e => by cases e; exact Nat.le_refl _⟩
  · simp only [aMakeSlice, T81, d81, T4, s4, b4]
    rw [if_pos ⟨by omega, by omega, by omega, by simp [maxBytes]; omega⟩, Int.toNat_natCast, hz]
  · rw [AH.next_alloc]; omega
  · rw [AH.get_alloc, if_pos rfl, List.append_nil]
/-- Who asks. -/
def probing (S : List Sn) : List Nat := (List.range S.length).filter fun i => match S[i]? with
  | some s => decide (s.st = 1)
  | none => false
theorem probing_nodup (S : List Sn) : (probing S).Nodup := List.nodup_range.filter _
theorem probing_mem {S : List Sn} {i : Nat} {s : Sn} (hs : S[i]? = some s) : i ∈ probing S ↔ s.st = 1 := by
  unfold probing
  rw [List.mem_filter, List.mem_range, hs]
  simp only [decide_eq_true_eq]
  exact ⟨fun h => h.2, fun h => ⟨(List.getElem?_eq_some_iff.1 hs).1, h⟩⟩
theorem probing_lt {S : List Sn} {i : Nat} (h : i ∈ probing S) : i < S.length := List.mem_range.1 (List.mem_filter.1 h).1
/-- Whether station k answers station i. -/
def ansK (lo hi : Int) (S : List Sn) (i k : Nat) : Bool := match S[k]?, S[i]? with
  | some s, some o => ansB lo hi s o k i
  | _, _ => false
def ansd (lo hi : Int) (S : List Sn) (i : Nat) : Bool := (List.range S.length).any (ansK lo hi S i)
/-- What becomes of a station that asks. -/
def prF (lo hi : Int) (S : List Sn) (i : Nat) (o : Sn) : Sn :=
  if ansd lo hi S i = true then { o with k := o.k + 1, se := 0, st := if o.k + 1 = 600 then 3 else o.st }
  else if o.se + 1 = 10 then { o with se := 10, st := 2, n := adrN lo hi o.row o.k, d := adrD o.row o.k }
  else { o with se := o.se + 1 }
def probeS (lo hi : Int) (S : List Sn) : List Sn := S.mapIdx fun i o => if o.st = 1 then prF lo hi S i o else o
/-- A list of which some are changed. -/
def at_ (f : Nat → Sn → Sn) (A : List Nat) (S : List Sn) : List Sn := S.mapIdx fun j o => if j ∈ A then f j o else o
theorem at_len (f : Nat → Sn → Sn) (A : List Nat) (S : List Sn) : (at_ f A S).length = S.length := List.length_mapIdx
theorem at_get (f : Nat → Sn → Sn) (A : List Nat) (S : List Sn) (i : Nat) : (at_ f A S)[i]? = (S[i]?).map fun o => if i ∈ A then f i o else o := List.getElem?_mapIdx
theorem at_step (f : Nat → Sn → Sn) {A : List Nat} {S : List Sn} {i : Nat} {s : Sn} (hs : S[i]? = some s) : at_ f (A ++ [i]) S = (at_ f A S).set i (f i s) := by
  have hk := (List.getElem?_eq_some_iff.1 hs).1
  apply List.ext_getElem?
  intro j
  rw [at_get, List.getElem?_set, at_len, at_get]
  by_cases h : i = j
  · subst h
    rw [if_pos rfl, if_pos hk, hs]
    simp
  · rw [if_neg h]
    cases S[j]? with
    | none => rfl
    | some o =>
      simp only [Option.map_some, List.mem_append, List.mem_singleton]
      by_cases h2 : j ∈ A
      · rw [if_pos h2, if_pos (.inl h2)]
      · rw [if_neg h2, if_neg (by rintro (g | g); exact h2 g; exact h g.symm)]
theorem at_probing (lo hi : Int) (S : List Sn) : at_ (prF lo hi S) (probing S) S = probeS lo hi S := by
  apply List.ext_getElem?
  intro j
  unfold probeS
  rw [at_get, List.getElem?_mapIdx]
  cases h : S[j]? with
  | none => rfl
  | some o =>
    simp only [Option.map_some]
    by_cases h2 : o.st = 1
    · rw [if_pos h2, if_pos ((probing_mem h).2 h2)]
    · rw [if_neg h2, if_neg (fun g => h2 ((probing_mem h).1 g))]
/-- A row of numbers below a bound, each with its mark. -/
def wl (n : Nat) (f : Nat → Bool) : List Bool := (List.range n).map f
theorem wl_len (n : Nat) (f : Nat → Bool) : (wl n f).length = n := by unfold wl; simp
theorem wl_get {n i : Nat} (f : Nat → Bool) (hi : i < n) : (wl n f)[i]? = some (f i) := by unfold wl; simp [hi]
theorem wl_set {n i : Nat} (f : Nat → Bool) (b : Bool) : (wl n f).set i b = wl n fun j => if j = i then b else f j := by
  apply List.ext_getElem?
  intro j
  rw [List.getElem?_set, wl_len]
  unfold wl
  rw [List.getElem?_map, List.getElem?_map]
  by_cases h : i = j
  · subst h
    rw [if_pos rfl]
    by_cases g : i < n
    · rw [if_pos g]; simp [g]
    · rw [if_neg g]; simp [g]
  · rw [if_neg h]
    by_cases g : j < n
    · simp [g, Ne.symm h]
    · simp [g]
theorem wl_none (n : Nat) : List.replicate n false = wl n fun _ => false := by
  unfold wl
  apply List.ext_getElem?
  intro j
  rw [List.getElem?_replicate, List.getElem?_map]
  by_cases g : j < n <;> simp [g]
end Go.AM.X
namespace Go.AM.X
open Go Go.AM Go.Proofs Go.AM.Sx
set_option maxHeartbeats 6400000
set_option maxRecDepth 100000
set_option linter.unusedSimpArgs false
set_option linter.unusedVariables false
theorem F27 : F 27 = some { body := (Try.f27.body.getD .skip), results := Try.f27.results.toList, rf := false } := by kernel_rfl
theorem R27 : regsOk T (Try.f27.body.getD .skip) = true := by kernel_rfl
/-- A link, and beside it two rows of numbers and one of marks that are new. -/
structure PW (h0 h : AH) (own : Nat → Nat) (p : Nat) (lo hi : Int) (sv : AV) (M : List Sm) (ra rb w : AV) (A B : List Nat) (W : List Bool) : Prop where
  L : LkOk h own p lo hi sv M
  xa : RowC 1 h ra A.length (fl iE A)
  xb : RowC 1 h rb B.length (fl iE B)
  xw : RowC 1 h w W.length (fl bE W)
  oa : Out own ra
  ob : Out own rb
  ow : Out own w
  fa : Fresh h0 ra
  fb : Fresh h0 rb
  fw : Fresh h0 w
  ab : ∀ b o l k z x, ra = .sl b o l k z x → offRow rb b
  wa : ∀ b o l k z x, w = .sl b o l k z x → offRow ra b ∧ offRow rb b
  st : Stf h0 h (fun c => own c = 0) (fun c => own c = 0)
section
variable {h0 h h2 : AH} {own : Nat → Nat} {p : Nat} {lo hi : Int} {sv : AV} {M M2 : List Sm} {ra rb w : AV} {A B : List Nat} {W : List Bool}
theorem PW.move (hP : PW h0 h own p lo hi sv M ra rb w A B W) (hn : h.next ≤ h2.next) (hk : ∀ c, c < h.next → own c = 0 → h2.get c = h.get c) (hL : LkOk h2 own p lo hi sv M2) : PW h0 h2 own p lo hi sv M2 ra rb w A B W :=
  { L := hL, xa := hP.xa.keep hn fun b o l k z x e => hk b (hP.xa.lt e) (hP.oa _ _ _ _ _ _ e), xb := hP.xb.keep hn fun b o l k z x e => hk b (hP.xb.lt e) (hP.ob _ _ _ _ _ _ e), xw := hP.xw.keep hn fun b o l k z x e => hk b (hP.xw.lt e) (hP.ow _ _ _ _ _ _ e), oa := hP.oa, ob := hP.ob, ow := hP.ow, fa := hP.fa, fb := hP.fb, fw := hP.fw, ab := hP.ab, wa := hP.wa
    st := ⟨Nat.le_trans hP.st.1 hn, fun c hc ho => ⟨(hk c (Nat.lt_of_lt_of_le hc hP.st.1) ho).trans (hP.st.2 c hc ho).1, ho⟩⟩ }
theorem PW.grow (hP : PW h0 h own p lo hi sv M ra rb w A B W) (hg : Grow h h2) : PW h0 h2 own p lo hi sv M ra rb w A B W :=
  hP.move hg.1 (fun c hc _ => hg.2 c hc) (hP.L.grow hg)
theorem PW.pushA (hP : PW h0 h own p lo hi sv M ra rb w A B W) (i : Nat) (hA : A.length ≤ 1000000) :
    ∃ v' h2, aAppend T 22 22 ra (.sl h.next 0 1 1 1 true) (h.alloc (.cells [.int .i64 (i : Nat)] .own)) = some (v', h2) ∧ PW h0 h2 own p lo hi sv M v' rb w (A ++ [i]) B W := by
  obtain ⟨v', h2, q1, q2, q3, q4, q5, q6, q7⟩ := hP.L.pushI hP.xa hP.oa i hA
  have hn := hP.st.1
  have nb : ∀ b o l k z x, v' = .sl b o l k z x → offRow rb b ∧ (∀ b' o l k z x, w = .sl b' o l k z x → b' ≠ b) := fun b o l k z x e => by
    rcases q7 _ _ _ _ _ _ e with g | ⟨_, _, _, _, _, g⟩
    · exact ⟨fun b' o' l' k' z' x' e' g' => by have := hP.xb.lt e'; omega, fun b' o' l' k' z' x' e' g' => by have := hP.xw.lt e'; omega⟩
    · exact ⟨hP.ab _ _ _ _ _ _ g, fun b' o' l' k' z' x' e' g' => (hP.wa _ _ _ _ _ _ e').1 _ _ _ _ _ _ g g'⟩
  have offa : ∀ b, (∀ b' o l k z x, ra = .sl b' o l k z x → b' ≠ b) → offRow ra b := fun b hb b' o l k z x e g => hb _ _ _ _ _ _ e g.symm
  refine ⟨v', h2, q1, { L := q3, xa := q2, xb := hP.xb.keep (by omega) fun b o l k z x e => q6 b (hP.xb.lt e) fun b' o' l' k' z' x' e' g => hP.ab _ _ _ _ _ _ e' _ _ _ _ _ _ e g.symm, xw := hP.xw.keep (by omega) fun b o l k z x e => q6 b (hP.xw.lt e) (hP.wa _ _ _ _ _ _ e).1, oa := q4, ob := hP.ob, ow := hP.ow, fa := fun b o l k z x e => ?_, fb := hP.fb, fw := hP.fw, ab := fun b o l k z x e => (nb _ _ _ _ _ _ e).1, wa := fun b o l k z x e => ⟨fun b' o' l' k' z' x' e' g => (nb _ _ _ _ _ _ e').2 _ _ _ _ _ _ e g, (hP.wa _ _ _ _ _ _ e).2⟩, st := ⟨by omega, fun c hc ho => ⟨?_, ho⟩⟩ }⟩
  · rcases q7 _ _ _ _ _ _ e with g | ⟨_, _, _, _, _, g⟩
    · omega
    · exact hP.fa _ _ _ _ _ _ g
  · rw [q6 c (by omega) (hP.fa.off hc)]; exact (hP.st.2 c hc ho).1
theorem PW.pushB (hP : PW h0 h own p lo hi sv M ra rb w A B W) (i : Nat) (hA : B.length ≤ 1000000) :
    ∃ v' h2, aAppend T 22 22 rb (.sl h.next 0 1 1 1 true) (h.alloc (.cells [.int .i64 (i : Nat)] .own)) = some (v', h2) ∧ PW h0 h2 own p lo hi sv M ra v' w A (B ++ [i]) W := by
  obtain ⟨v', h2, q1, q2, q3, q4, q5, q6, q7⟩ := hP.L.pushI hP.xb hP.ob i hA
  have hn := hP.st.1
  refine ⟨v', h2, q1, { L := q3, xb := q2, xa := hP.xa.keep (by omega) fun b o l k z x e => q6 b (hP.xa.lt e) (hP.ab _ _ _ _ _ _ e), xw := hP.xw.keep (by omega) fun b o l k z x e => q6 b (hP.xw.lt e) (hP.wa _ _ _ _ _ _ e).2, oa := hP.oa, ob := q4, ow := hP.ow, fa := hP.fa, fb := fun b o l k z x e => ?_, fw := hP.fw, ab := fun b o l k z x e b' o' l' k' z' x' e' g => ?_, wa := fun b o l k z x e => ⟨(hP.wa _ _ _ _ _ _ e).1, fun b' o' l' k' z' x' e' g => ?_⟩, st := ⟨by omega, fun c hc ho => ⟨?_, ho⟩⟩ }⟩
  · rcases q7 _ _ _ _ _ _ e with g | ⟨_, _, _, _, _, g⟩
    · omega
    · exact hP.fb _ _ _ _ _ _ g
  · rcases q7 _ _ _ _ _ _ e' with q | ⟨_, _, _, _, _, q⟩
    · have := hP.xa.lt e; omega
    · exact hP.ab _ _ _ _ _ _ e _ _ _ _ _ _ q g
  · rcases q7 _ _ _ _ _ _ e' with q | ⟨_, _, _, _, _, q⟩
    · have := hP.xw.lt e; omega
    · exact (hP.wa _ _ _ _ _ _ e).2 _ _ _ _ _ _ q g
  · rw [q6 c (by omega) (hP.fb.off hc)]; exact (hP.st.2 c hc ho).1
theorem PW.make {n : Nat} (hP : PW h0 h own p lo hi sv M ra rb .nils A B []) (hn : n ≤ 1000) :
    ∃ v h2, aMakeSlice T 81 (.int .i64 (n : Nat)) (.int .i64 (n : Nat)) h = some (v, h2) ∧ PW h0 h2 own p lo hi sv M ra rb v A B (wl n fun _ => false) := by
  obtain ⟨v, h2, q1, q2, q3, q4⟩ := mkBools (h := h) hn
  have hP2 := hP.grow q3
  rw [wl_none] at q2
  exact ⟨v, h2, q1, { L := hP2.L, xa := hP2.xa, xb := hP2.xb, xw := q2, oa := hP.oa, ob := hP.ob, ow := fun b o l k z x e => hP.L.nw b (q4 _ _ _ _ _ _ e), fa := hP.fa, fb := hP.fb, fw := fun b o l k z x e => Nat.le_trans hP.st.1 (q4 _ _ _ _ _ _ e), ab := hP.ab, wa := fun b o l k z x e => ⟨fun b' o' l' k' z' x' e' g => by have := hP.xa.lt e'; have := q4 _ _ _ _ _ _ e; omega, fun b' o' l' k' z' x' e' g => by have := hP.xb.lt e'; have := q4 _ _ _ _ _ _ e; omega⟩, st := hP2.st }⟩
theorem PW.mark {n i : Nat} {f : Nat → Bool} (hP : PW h0 h own p lo hi sv M ra rb w A B (wl n f)) (hi' : i < n) (b : Bool) :
    ∃ bb h2, aIndexAddr T 81 w (.int .i64 (i : Nat)) = some (.ptr bb i) ∧ aStore T 4 (.ptr bb i) (.bool b) h = some h2 ∧ PW h0 h2 own p lo hi sv M ra rb w A B (wl n fun j => if j = i then b else f j) := by
  obtain ⟨bb, h2, q1, q2, q3, q4, q5, q6⟩ := storeC bE 1 bE_len T81 d81 T4 s4 T4 s4 (y := b) (w := .bool b) (j := 0) hP.xw (wl_get f hi') (by decide) rfl rfl rfl
  rw [Nat.mul_one] at q1 q2
  have e1 : (wl n f).set i b = wl n fun j => if j = i then b else f j := wl_set f b
  rw [e1] at q3
  have hlen : (wl n fun j => if j = i then b else f j).length = (wl n f).length := by rw [wl_len, wl_len]
  have hwo : ∀ c, own c ≠ 0 → offRow w c := fun c hc b o l k z x e g => hc (by rw [g]; exact hP.ow _ _ _ _ _ _ e)
  refine ⟨bb, h2, q1, q2, { L := hP.L.keep (by omega) fun c hc ho => q5 c (hwo c ho), xa := hP.xa.keep (by omega) fun b o l k z x e => q5 b fun b' o' l' k' z' x' e' g => (hP.wa _ _ _ _ _ _ e').1 _ _ _ _ _ _ e g.symm, xb := hP.xb.keep (by omega) fun b o l k z x e => q5 b fun b' o' l' k' z' x' e' g => (hP.wa _ _ _ _ _ _ e').2 _ _ _ _ _ _ e g.symm, xw := by rw [hlen]; exact q3, oa := hP.oa, ob := hP.ob, ow := hP.ow, fa := hP.fa, fb := hP.fb, fw := hP.fw, ab := hP.ab, wa := hP.wa, st := ⟨by rw [q4]; exact hP.st.1, fun c hc ho => ⟨(q5 c (hP.fw.off hc)).trans (hP.st.2 c hc ho).1, ho⟩⟩ }⟩
end
end Go.AM.X
namespace Go.AM.X
open Go Go.AM Go.Proofs Go.AM.Sx
set_option maxHeartbeats 12800000
set_option maxRecDepth 100000
set_option linter.unusedVariables false
/-- Who asks, of the first ones. -/
def pre (S : List Sn) (z : Nat) : List Nat := (List.range z).filter fun i => match S[i]? with
  | some s => decide (s.st = 1)
  | none => false
theorem pre_yes {S : List Sn} {z : Nat} {s : Sn} (hs : S[z]? = some s) (h : s.st = 1) : pre S (z + 1) = pre S z ++ [z] := by
  unfold pre
  rw [List.range_succ, List.filter_append, List.filter_cons_of_pos (by rw [hs]; simpa using h), List.filter_nil]
theorem pre_no {S : List Sn} {z : Nat} {s : Sn} (hs : S[z]? = some s) (h : ¬ s.st = 1) : pre S (z + 1) = pre S z := by
  unfold pre
  rw [List.range_succ, List.filter_append, List.filter_cons_of_neg (by rw [hs]; simpa using h), List.filter_nil, List.append_nil]
theorem pre_len (S : List Sn) (z : Nat) : (pre S z).length ≤ z := by
  have := List.length_filter_le (fun i => match S[i]? with | some s => decide (s.st = 1) | none => false) (List.range z)
  rw [List.length_range] at this; exact this
def FOk (lo hi : Int) (S : List Sn) (n : Nat) (A : List Nat) (f : Nat → Bool) : Prop := ∀ j, j < n → (f j = true ↔ j ∈ A ∧ ansd lo hi S j = true)
def GOk (lo hi : Int) (S : List Sn) (n : Nat) (A : List Nat) (i y : Nat) (g : Nat → Bool) : Prop := ∀ j, j < n → (g j = true ↔ (j ∈ A ∧ ansd lo hi S j = true) ∨ (j = i ∧ (List.range y).any (ansK lo hi S i) = true))
theorem GOk.start {lo hi : Int} {S : List Sn} {n : Nat} {A : List Nat} {f : Nat → Bool} (i : Nat) (h : FOk lo hi S n A f) : GOk lo hi S n A i 0 f := fun j hj => by rw [h j hj]; simp
theorem GOk.fin {lo hi : Int} {S : List Sn} {n : Nat} {A : List Nat} {g : Nat → Bool} {i : Nat} (hn : n = S.length) (h : GOk lo hi S n A i n g) : FOk lo hi S n (A ++ [i]) g := fun j hj => by
  rw [h j hj, List.mem_append, List.mem_singleton]
  constructor
  · rintro (⟨a, b⟩ | ⟨a, b⟩)
    · exact ⟨.inl a, b⟩
    · refine ⟨.inr a, ?_⟩
      rw [a]; unfold ansd; rw [← hn]; exact b
  · rintro ⟨a | a, b⟩
    · exact .inl ⟨a, b⟩
    · refine .inr ⟨a, ?_⟩
      rw [a] at b; unfold ansd at b; rw [← hn] at b; exact b
theorem GOk.no {lo hi : Int} {S : List Sn} {n : Nat} {A : List Nat} {g : Nat → Bool} {i y : Nat} (h : GOk lo hi S n A i y g) (hb : ansK lo hi S i y = false) : GOk lo hi S n A i (y + 1) g := fun j hj => by
  rw [h j hj, List.range_succ, List.any_append]
  simp [hb]
theorem GOk.yes {lo hi : Int} {S : List Sn} {n : Nat} {A : List Nat} {g : Nat → Bool} {i y : Nat} (h : GOk lo hi S n A i y g) (hb : ansK lo hi S i y = true) : GOk lo hi S n A i (y + 1) (fun j => if j = i then true else g j) := fun j hj => by
  rw [List.range_succ, List.any_append]
  by_cases e : j = i
  · simp only [if_pos e]
    simp [hb, e]
  · simp only [if_neg e]
    rw [h j hj]
    simp [e]
theorem st8_45 {h : AH} {q : Nat} {a0 a1 a2 a3 a4 a5 a6 a7 : AV} {x y : Int} (hg : h.get q = some (.cells [a0, a1, a2, a3, a4, a5, a6, a7] .own)) : aStore T 35 (.ptr q 4) (.agg [.int .i64 x, .int .i64 y]) h = some (h.put q (.cells [a0, a1, a2, a3, .int .i64 x, .int .i64 y, a6, a7] .own)) := by
  rw [store_n (vs := [.int .i64 x, .int .i64 y]) T35 rfl (by rw [s35]; rfl) rfl hg (by simp)]; rfl
theorem run27 {I : Nat → Option (List AV → AH → Rs)} (h71 : I 71 = none) (h60 : I 60 = none) (h65 : I 65 = none) (h52 : I 52 = none) (h39 : I 39 = none) (h41 : I 41 = none) (h40 : I 40 = none) (h27 : I 27 = none) (m p : Nat) (lo hi : Int) (own : Nat → Nat) (sv : AV) (M : List Sm) (h : AH) (hL : LkOk h own p lo hi sv M) (hl : 1 ≤ lo ∧ lo ≤ hi ∧ hi ≤ 65279) (hn : M.length ≤ 100) (hkb : ∀ s ∈ M.map Sm.s, (0 ≤ s.k ∧ s.k ≤ 600) ∧ 0 ≤ s.se ∧ s.se ≤ 1000) :
    ∃ h2 M2, call F I T (m + 210) 27 [.ptr p 0] h = some (.tup [], h2) ∧ LkOk h2 own p lo hi sv M2 ∧ M2.map Sm.s = probeS lo hi (M.map Sm.s) ∧ Stf h h2 (fun c => own c = 0) (fun c => own c = 0) := by
  obtain ⟨fr, g⟩ := hL.g
  have hlen : ∀ h, aLen T 56 sv h = some (.int .i64 (M.length : Nat)) := fun h => hL.r.len T56 d56
  obtain ⟨S, hS⟩ : ∃ S, S = M.map Sm.s := ⟨_, rfl⟩
  rw [← hS] at hkb ⊢
  have hSM : S.length = M.length := by rw [hS, List.length_map]
  have hP0 : PW h h own p lo hi sv M .nils .nils .nils [] [] [] :=
    { L := hL, xa := RowC.nil _ _, xb := RowC.nil _ _, xw := RowC.nil _ _, oa := fun _ _ _ _ _ _ e => (by cases e), ob := fun _ _ _ _ _ _ e => (by cases e), ow := fun _ _ _ _ _ _ e => (by cases e), fa := fun _ _ _ _ _ _ e => (by cases e), fb := fun _ _ _ _ _ _ e => (by cases e), fw := fun _ _ _ _ _ _ e => (by cases e), ab := fun _ _ _ _ _ _ e => (by cases e), wa := fun _ _ _ _ _ _ e => (by cases e), st := Stf.refl _ _ }
  rw [call_F (by decide) h27 F27 rfl R27]; simp only [Try.f27, Option.getD]
  simp +contextual (maxSteps := 3000000) only [↓code_seq, ↓code_region, ↓code_block, ↓code_loop, ↓ops_nil, ↓ops_cons, run_none, ↓run0_v, ↓seqK_normal, put_same, put_ne, env0_at, ev_tmp, ev_const, oc_int, oc_nils, o_move, o_assign, o_len, o_load, o_nilCheck, o_fieldAddr, g_none, nil_ptr, Option.getD_some, not_false_eq_true, Nat.reduceAdd, reduceCtorEq, List.getElem?_cons_zero, List.getElem?_cons_succ, ne_eq, fa_ptr T58 p58_3 (by decide), load_p1 T56 a56, loadc_def, g, hlen]
  refine iterL_wp (Q := fun r => ∃ h2 M2, r = some (.tup [], h2) ∧ LkOk h2 own p lo hi sv M2 ∧ M2.map Sm.s = probeS lo hi S ∧ Stf h h2 (fun c => own c = 0) (fun c => own c = 0)) (N := M.length) (Inv := fun k e h' => ∃ z ra rb, k + z = M.length ∧ PW h h' own p lo hi sv M ra rb .nils (pre S z) (pre S z) [] ∧ z ≤ M.length ∧ e 0 = .ptr p 0 ∧ e 2 = ra ∧ e 3 = rb ∧ e 16 = sv ∧ e 17 = .int .i64 (M.length : Nat) ∧ e 18 = .int .i64 (z : Nat)) ?_ ?_ (show M.length < m + 209 by omega)
  · rintro k e h' K' ⟨z, ra, rb, hk, hP, hzl, e0, e2, e3, e16, e17, e18⟩ hnext hexit
    by_cases hz : z < M.length
    · have c1 : (z : Int) < (M.length : Int) := by omega
      have c7 : IntKind.i64.wrap ((z : Int) + 1) = ((z + 1 : Nat) : Int) := by rw [wrap_i64 (by omega) (by omega)]; rfl
      obtain ⟨q, hq⟩ : ∃ q, M[z]? = some q := ⟨M[z], List.getElem?_eq_getElem hz⟩
      have hs : S[z]? = some q.s := by rw [hS, List.getElem?_map, hq]; rfl
      obtain ⟨b, cs, bk, w1, w2, w3⟩ := loadM hP.L.r hq
      have gq := StOk.ptr hP.L hq
      have hpl := pre_len S z
      by_cases c2 : q.s.st = 1
      · obtain ⟨va, h1, q1, hP1⟩ := hP.pushA z (by omega)
        obtain ⟨h2, f1, f2, f3, f4, f5⟩ := run39 h71 h60 h65 h52 h39 (m + 206) p lo hi own sv M h1 hP1.L
        have hP2 := hP1.move (by omega) (fun c hc ho => f5 c (fun e => by rw [e, hP1.L.op] at ho; cases ho)) f2
        obtain ⟨vb, h3, q2, hP3⟩ := hP2.pushB z (by omega)
        rw [← pre_yes hs c2] at hP3
        simp +contextual (maxSteps := 3000000) only [↓code_skip, ↓code_seq, ↓code_region, ↓code_cond, ↓code_block, aCond_bool, ↓ops_nil, ↓ops_cons, run_none, ↓run0_v, ↓run0_r, ↓seqK_normal, ↓blkK_normal, put_same, put_ne, ev_tmp, ev_const, ev_func, oc_int, o_move, o_assign, o_bin, o_call, o_buildSlice, o_load, o_nilCheck, o_fieldAddr, o_indexAddr, o_append, g_none, bin_add, bin_eql, bin_lss, nil_ptr, Option.bind_some, ↓reduceIte, Nat.reduceEqDiff, not_false_eq_true, Nat.reduceAdd, Nat.reduceMul, reduceCtorEq, Nat.succ_ne_self, List.getElem?_cons_zero, List.getElem?_cons_succ, List.map_cons, List.map_nil, List.append_nil, List.nil_append, and_true, Nat.le_refl, ne_eq, loadc_def, load_p1 T59 a59, fa_ptr T64 p64_1 (by decide), load_p1 T3 a3, buildSl T22 d22 T3 (n := 1) (by rw [s3]; decide), s3, z3, parts_eq, fillA, AV.cells, AH.splice, List.take_zero, List.drop_succ_cons, List.drop_nil, List.length_cons, List.length_nil, repl, e0, e2, e3, e16, e17, e18, c1, w1, w2, w3, gq, eq_true c2, q1, f1, q2, c7, decide_true, callV_fn (g := 39) (by decide)]
        refine hnext (k - 1) _ _ (by omega) ⟨z + 1, va, vb, by omega, ?_, ?_, ?_, ?_, ?_, ?_, ?_, ?_⟩
        · exact hP3
        · omega
        · simp only [put_ne, not_false_eq_true, reduceCtorEq, ne_eq, e0]
        · simp only [put_same, put_ne, Nat.reduceEqDiff, not_false_eq_true, ne_eq]
        · simp only [put_same, put_ne, Nat.reduceEqDiff, not_false_eq_true, ne_eq]
        · simp only [put_ne, Nat.reduceEqDiff, not_false_eq_true, ne_eq, e16]
        · simp only [put_ne, Nat.reduceEqDiff, not_false_eq_true, ne_eq, e17]
        · simp only [put_same]
      · rw [← pre_no hs c2] at hP
        simp +contextual (maxSteps := 3000000) only [↓code_skip, ↓code_seq, ↓code_region, ↓code_cond, ↓code_block, aCond_bool, ↓ops_nil, ↓ops_cons, run_none, ↓run0_v, ↓seqK_normal, ↓blkK_normal, put_same, put_ne, ev_tmp, ev_const, oc_int, o_move, o_assign, o_bin, o_load, o_nilCheck, o_fieldAddr, o_indexAddr, g_none, bin_add, bin_eql, bin_lss, nil_ptr, ↓reduceIte, Nat.reduceEqDiff, not_false_eq_true, Nat.reduceAdd, List.getElem?_cons_zero, List.getElem?_cons_succ, Bool.false_eq_true, ne_eq, loadc_def, load_p1 T59 a59, fa_ptr T64 p64_1 (by decide), load_p1 T3 a3, e16, e17, e18, c1, w1, w2, w3, gq, c2, c7, decide_true, decide_false]
        refine hnext (k - 1) _ _ (by omega) ⟨z + 1, ra, rb, by omega, ?_, ?_, ?_, ?_, ?_, ?_, ?_, ?_⟩
        · exact hP
        · omega
        · simp only [put_ne, not_false_eq_true, reduceCtorEq, ne_eq, e0]
        · simp only [put_ne, Nat.reduceEqDiff, not_false_eq_true, ne_eq, e2]
        · simp only [put_ne, Nat.reduceEqDiff, not_false_eq_true, ne_eq, e3]
        · simp only [put_ne, Nat.reduceEqDiff, not_false_eq_true, ne_eq, e16]
        · simp only [put_ne, Nat.reduceEqDiff, not_false_eq_true, ne_eq, e17]
        · simp only [put_same]
    · have c1 : ¬ (z : Int) < (M.length : Int) := by omega
      have hin : z = M.length := by omega
      obtain ⟨A, hA⟩ : ∃ A, A = probing S := ⟨_, rfl⟩
      have hAp : pre S z = A := by rw [hA, hin, ← hSM]; rfl
      rw [hAp] at hP
      have hAl : A.length ≤ M.length := by rw [← hAp, ← hin]; exact pre_len S z
      obtain ⟨fr2, g2⟩ := hP.L.g
      obtain ⟨w, H1, q1, hP1⟩ := hP.make (n := M.length) (by omega)
      have hlb : ∀ h, aLen T 22 rb h = some (.int .i64 (A.length : Nat)) := fun h => hP.xb.len T22 d22
      have hla : ∀ h, aLen T 22 ra h = some (.int .i64 (A.length : Nat)) := fun h => hP.xa.len T22 d22
      simp +contextual (maxSteps := 3000000) only [↓code_seq, ↓code_region, ↓code_cond, ↓code_exit, aCond_bool, ↓ops_nil, ↓ops_cons, run_none, ↓run0_v, ↓seqK_normal, ↓seqK_exit, put_same, ev_tmp, o_bin, g_none, bin_lss, decide_eq_true_eq, ↓reduceIte, e17, e18, c1]
      refine hexit _ _ _ (by simp) ?_
      simp +contextual (maxSteps := 3000000) only [↓code_seq, ↓code_region, ↓code_block, ↓code_loop, ↓ops_nil, ↓ops_cons, run_none, ↓run0_v, ↓run0_r, ↓seqK_normal, ↓blkK_exit, put_same, put_ne, ev_tmp, ev_const, oc_int, o_move, o_assign, o_len, o_load, o_nilCheck, o_makeSlice, o_fieldAddr, g_none, nil_ptr, ↓reduceIte, Nat.reduceEqDiff, not_false_eq_true, Nat.reduceAdd, reduceCtorEq, List.getElem?_cons_zero, List.getElem?_cons_succ, ne_eq, fa_ptr T58 p58_3 (by decide), load_p1 T56 a56, loadc_def, e0, e3, g2, hlen, q1, hlb]
      refine iterL_wp (Q := fun r => ∃ h2 M2, r = some (.tup [], h2) ∧ LkOk h2 own p lo hi sv M2 ∧ M2.map Sm.s = probeS lo hi S ∧ Stf h h2 (fun c => own c = 0) (fun c => own c = 0)) (N := A.length) (Inv := fun k e h' => ∃ x f, k + x = A.length ∧ PW h h' own p lo hi sv M ra rb w A A (wl M.length f) ∧ FOk lo hi S M.length (A.take x) f ∧ x ≤ A.length ∧ e 0 = .ptr p 0 ∧ e 2 = ra ∧ e 3 = rb ∧ e 6 = w ∧ e 45 = rb ∧ e 46 = .int .i64 (A.length : Nat) ∧ e 47 = .int .i64 (x : Nat)) ?_ ?_ (show A.length < m + 209 by omega)
      · rintro k e h' K' ⟨x, f, hk, hP2, hF, hxl, e0, e2, e3, e6, e45, e46, e47⟩ hnext hexit
        by_cases hx : x < A.length
        · have d1 : (x : Int) < (A.length : Int) := by omega
          have d7 : IntKind.i64.wrap ((x : Int) + 1) = ((x + 1 : Nat) : Int) := by rw [wrap_i64 (by omega) (by omega)]; rfl
          obtain ⟨i, hia⟩ : ∃ i, A[x]? = some i := ⟨A[x], List.getElem?_eq_getElem hx⟩
          have him : i ∈ A := List.mem_of_getElem? hia
          have hil : i < M.length := by rw [← hSM]; rw [hA] at him; exact probing_lt him
          obtain ⟨b, cs, bk, w1, w2, w3⟩ := loadI hP2.xb hia
          obtain ⟨fr3, g3⟩ := hP2.L.g
          obtain ⟨o, ho⟩ : ∃ o, M[i]? = some o := ⟨M[i], List.getElem?_eq_getElem hil⟩
          have hso : S[i]? = some o.s := by rw [hS, List.getElem?_map, ho]; rfl
          have htk : A.take (x + 1) = A.take x ++ [i] := by rw [List.take_add_one, hia]; rfl
          have hnext0 := hnext
          obtain ⟨k0, hk0⟩ : ∃ k0, k0 = k := ⟨k, rfl⟩
          simp +contextual (maxSteps := 3000000) only [↓code_skip, ↓code_seq, ↓code_region, ↓code_cond, ↓code_block, ↓code_loop, aCond_bool, ↓ops_nil, ↓ops_cons, run_none, ↓run0_v, ↓seqK_normal, put_same, put_ne, ev_tmp, ev_const, oc_int, o_move, o_assign, o_bin, o_len, o_load, o_nilCheck, o_fieldAddr, o_indexAddr, g_none, bin_lss, nil_ptr, decide_eq_true_eq, ↓reduceIte, Nat.reduceEqDiff, not_false_eq_true, Nat.reduceAdd, reduceCtorEq, List.getElem?_cons_zero, List.getElem?_cons_succ, ne_eq, fa_ptr T58 p58_3 (by decide), load_p1 T56 a56, loadc_def, load_p1 T3 a3, e0, e45, e46, e47, d1, w1, w2, w3, g3, hlen]
          refine iterL_wp (Q := fun r => ∃ h2 M2, r = some (.tup [], h2) ∧ LkOk h2 own p lo hi sv M2 ∧ M2.map Sm.s = probeS lo hi S ∧ Stf h h2 (fun c => own c = 0) (fun c => own c = 0)) (N := M.length) (Inv := fun k e h' => ∃ y f2, k + y = M.length ∧ PW h h' own p lo hi sv M ra rb w A A (wl M.length f2) ∧ GOk lo hi S M.length (A.take x) i y f2 ∧ y ≤ M.length ∧ e 0 = .ptr p 0 ∧ e 2 = ra ∧ e 3 = rb ∧ e 6 = w ∧ e 8 = .int .i64 (i : Nat) ∧ e 45 = rb ∧ e 46 = .int .i64 (A.length : Nat) ∧ e 47 = .int .i64 (x : Nat) ∧ e 54 = sv ∧ e 55 = .int .i64 (M.length : Nat) ∧ e 56 = .int .i64 (y : Nat)) ?_ ?_ (show M.length < m + 209 by omega)
          · rintro k e h' K' ⟨y, f2, hk, hP3, hG, hyl, e0, e2, e3, e6, e8, e45, e46, e47, e54, e55, e56⟩ hnext hexit
            by_cases hy : y < M.length
            · have r1 : (y : Int) < (M.length : Int) := by omega
              have r7 : IntKind.i64.wrap ((y : Int) + 1) = ((y + 1 : Nat) : Int) := by rw [wrap_i64 (by omega) (by omega)]; rfl
              obtain ⟨q, hq⟩ : ∃ q, M[y]? = some q := ⟨M[y], List.getElem?_eq_getElem hy⟩
              have hsq : S[y]? = some q.s := by rw [hS, List.getElem?_map, hq]; rfl
              obtain ⟨h2, k1, k2⟩ := run40 h41 h40 (m + 205) p y i lo hi own sv M q o h' hP3.L hl hq ho (hkb _ (List.mem_of_getElem? hsq)).1 (hkb _ (List.mem_of_getElem? hso)).1
              have hP4 := hP3.grow k2
              have hak : ansK lo hi S i y = ansB lo hi q.s o.s y i := by unfold ansK; rw [hsq, hso]
              cases hb : ansB lo hi q.s o.s y i
              · rw [hb] at k1 hak
                simp +contextual (maxSteps := 3000000) only [↓code_skip, ↓code_seq, ↓code_region, ↓code_cond, ↓code_block, aCond_bool, ↓ops_nil, ↓ops_cons, run_none, run_someT, ↓run0_v, ↓run0_r, ↓seqK_normal, ↓blkK_normal, put_same, put_ne, ev_tmp, ev_const, ev_func, oc_int, oc_bool, o_move, o_assign, o_pick, o_bin, o_call, g_none, g_some, pick_bool, bin_add, bin_lss, Option.bind_some, decide_eq_true_eq, ↓reduceIte, Nat.reduceEqDiff, not_false_eq_true, reduceCtorEq, List.getElem?_cons_zero, List.getElem?_cons_succ, List.getElem?_toArray, Bool.false_eq_true, List.map_cons, List.map_nil, List.append_nil, List.nil_append, ne_eq, callV_fn (g := 39) (by decide), e0, e8, e55, e56, r1, k1, r7, callV_fn (g := 40) (by decide)]
                refine hnext (k - 1) _ _ (by omega) ⟨y + 1, f2, by omega, ?_, ?_, ?_, ?_, ?_, ?_, ?_, ?_, ?_, ?_, ?_, ?_, ?_, ?_⟩
                · exact hP4
                · exact hG.no hak
                · omega
                · simp only [put_ne, not_false_eq_true, reduceCtorEq, ne_eq, e0]
                · simp only [put_ne, Nat.reduceEqDiff, not_false_eq_true, ne_eq, e2]
                · simp only [put_ne, Nat.reduceEqDiff, not_false_eq_true, ne_eq, e3]
                · simp only [put_ne, Nat.reduceEqDiff, not_false_eq_true, ne_eq, e6]
                · simp only [put_ne, Nat.reduceEqDiff, not_false_eq_true, ne_eq, e8]
                · simp only [put_ne, Nat.reduceEqDiff, not_false_eq_true, ne_eq, e45]
                · simp only [put_ne, Nat.reduceEqDiff, not_false_eq_true, ne_eq, e46]
                · simp only [put_ne, Nat.reduceEqDiff, not_false_eq_true, ne_eq, e47]
                · simp only [put_ne, Nat.reduceEqDiff, not_false_eq_true, ne_eq, e54]
                · simp only [put_ne, Nat.reduceEqDiff, not_false_eq_true, ne_eq, e55]
                · simp only [put_same]
              · rw [hb] at k1 hak
                obtain ⟨h3, f1, ff2, f3, f4, f5⟩ := run39 h71 h60 h65 h52 h39 (m + 206) p lo hi own sv M h2 hP4.L
                have hP5 := hP4.move (by omega) (fun c hc ho => f5 c (fun e => by rw [e, hP4.L.op] at ho; cases ho)) ff2
                obtain ⟨bb, h4, t1, t2, hP6⟩ := hP5.mark hil true
                simp +contextual (maxSteps := 3000000) only [↓code_skip, ↓code_seq, ↓code_region, ↓code_cond, ↓code_block, aCond_bool, ↓ops_nil, ↓ops_cons, run_none, run_someT, ↓run0_v, ↓run0_h, ↓run0_r, ↓seqK_normal, ↓blkK_normal, put_same, put_ne, put_none, ev_tmp, ev_const, ev_func, oc_int, oc_bool, o_move, o_assign, o_pick, o_bin, o_call, o_store, o_indexAddr, g_none, g_some, pick_bool, bin_add, bin_lss, Option.bind_some, decide_eq_true_eq, ↓reduceIte, Nat.reduceEqDiff, not_false_eq_true, reduceCtorEq, List.getElem?_cons_zero, List.getElem?_cons_succ, List.getElem?_toArray, List.map_cons, List.map_nil, List.append_nil, List.nil_append, ne_eq, run0_h, e0, e6, e8, e55, e56, r1, k1, f1, t1, t2, r7, callV_fn (g := 40) (by decide), callV_fn (g := 39) (by decide)]
                refine hnext (k - 1) _ _ (by omega) ⟨y + 1, fun j => if j = i then true else f2 j, by omega, ?_, ?_, ?_, ?_, ?_, ?_, ?_, ?_, ?_, ?_, ?_, ?_, ?_, ?_⟩
                · exact hP6
                · exact hG.yes hak
                · omega
                · simp only [put_ne, not_false_eq_true, reduceCtorEq, ne_eq, e0]
                · simp only [put_ne, Nat.reduceEqDiff, not_false_eq_true, ne_eq, e2]
                · simp only [put_ne, Nat.reduceEqDiff, not_false_eq_true, ne_eq, e3]
                · simp only [put_ne, Nat.reduceEqDiff, not_false_eq_true, ne_eq, e6]
                · simp only [put_ne, Nat.reduceEqDiff, not_false_eq_true, ne_eq, e8]
                · simp only [put_ne, Nat.reduceEqDiff, not_false_eq_true, ne_eq, e45]
                · simp only [put_ne, Nat.reduceEqDiff, not_false_eq_true, ne_eq, e46]
                · simp only [put_ne, Nat.reduceEqDiff, not_false_eq_true, ne_eq, e47]
                · simp only [put_ne, Nat.reduceEqDiff, not_false_eq_true, ne_eq, e54]
                · simp only [put_ne, Nat.reduceEqDiff, not_false_eq_true, ne_eq, e55]
                · simp only [put_same]
            · have r1 : ¬ (y : Int) < (M.length : Int) := by omega
              have hyn : y = M.length := by omega
              rw [hyn] at hG
              simp +contextual (maxSteps := 3000000) only [↓code_seq, ↓code_region, ↓code_cond, ↓code_exit, aCond_bool, ↓ops_nil, ↓ops_cons, run_none, ↓run0_v, ↓seqK_normal, ↓seqK_exit, put_same, ev_tmp, o_bin, g_none, bin_lss, decide_eq_true_eq, ↓reduceIte, e55, e56, r1]
              refine hexit _ _ _ (by simp) ?_
              simp +contextual (maxSteps := 3000000) only [↓code_region, ↓ops_nil, ↓ops_cons, run_none, ↓run0_v, ↓seqK_normal, ↓blkK_normal, ↓blkK_exit, put_same, put_ne, ev_tmp, ev_const, oc_int, o_move, o_bin, g_none, bin_add, ↓reduceIte, Nat.reduceEqDiff, not_false_eq_true, ne_eq, e47, d7]
              refine hnext0 (k0 - 1) _ _ (by omega) ⟨x + 1, f2, by omega, hP3, by rw [htk]; exact hG.fin hSM.symm, by omega, ?_, ?_, ?_, ?_, ?_, ?_, ?_⟩
              all_goals simp +contextual (maxSteps := 3000000) only [put_same, put_ne, Nat.reduceEqDiff, not_false_eq_true, reduceCtorEq, ne_eq, e0, e2, e3, e6, e45, e46]
          · refine ⟨0, f, by omega, ?_, ?_, ?_, ?_, ?_, ?_, ?_, ?_, ?_, ?_, ?_, ?_, ?_, ?_⟩
            · exact hP2
            · exact GOk.start i hF
            · omega
            · simp only [put_ne, not_false_eq_true, reduceCtorEq, ne_eq, e0]
            · simp only [put_ne, Nat.reduceEqDiff, not_false_eq_true, ne_eq, e2]
            · simp only [put_ne, Nat.reduceEqDiff, not_false_eq_true, ne_eq, e3]
            · simp only [put_ne, Nat.reduceEqDiff, not_false_eq_true, ne_eq, e6]
            · simp only [put_same, put_ne, Nat.reduceEqDiff, not_false_eq_true, ne_eq]
            · simp only [put_ne, Nat.reduceEqDiff, not_false_eq_true, ne_eq, e45]
            · simp only [put_ne, Nat.reduceEqDiff, not_false_eq_true, ne_eq, e46]
            · simp only [put_ne, Nat.reduceEqDiff, not_false_eq_true, ne_eq, e47]
            · simp only [put_same, put_ne, Nat.reduceEqDiff, not_false_eq_true, ne_eq]
            · simp only [put_same, put_ne, Nat.reduceEqDiff, not_false_eq_true, ne_eq]
            · simp only [put_same]; rfl
        · have d1 : ¬ (x : Int) < (A.length : Int) := by omega
          rw [List.take_of_length_le (by omega)] at hF
          simp +contextual (maxSteps := 3000000) only [↓code_seq, ↓code_region, ↓code_cond, ↓code_exit, aCond_bool, ↓ops_nil, ↓ops_cons, run_none, ↓run0_v, ↓seqK_normal, ↓seqK_exit, put_same, ev_tmp, o_bin, g_none, bin_lss, decide_eq_true_eq, ↓reduceIte, e46, e47, d1]
          refine hexit _ _ _ (by simp) ?_
          simp +contextual (maxSteps := 3000000) only [↓code_seq, ↓code_region, ↓code_block, ↓code_loop, ↓ops_nil, ↓ops_cons, run_none, ↓run0_v, ↓seqK_normal, ↓blkK_exit, put_same, put_ne, ev_tmp, ev_const, oc_int, o_move, o_len, g_none, ↓reduceIte, Nat.reduceEqDiff, not_false_eq_true, ne_eq, e2, hla]
          have hnd : A.Nodup := by rw [hA]; exact probing_nodup S
          obtain ⟨G, hG⟩ : ∃ G, G = prF lo hi S := ⟨_, rfl⟩
          refine iterL_wp (Q := fun r => ∃ h2 M2, r = some (.tup [], h2) ∧ LkOk h2 own p lo hi sv M2 ∧ M2.map Sm.s = probeS lo hi S ∧ Stf h h2 (fun c => own c = 0) (fun c => own c = 0)) (N := A.length) (Inv := fun k e h' => ∃ u M2, k + u = A.length ∧ PW h h' own p lo hi sv M2 ra rb w A A (wl M.length f) ∧ M2.map Sm.s = at_ G (A.take u) S ∧ u ≤ A.length ∧ e 0 = .ptr p 0 ∧ e 6 = w ∧ e 72 = ra ∧ e 73 = .int .i64 (A.length : Nat) ∧ e 74 = .int .i64 (u : Nat)) ?_ ?_ (show A.length < m + 209 by omega)
          · rintro k e h' K' ⟨u, M2, hk, hP3, hMs, hul, e0, e6, e72, e73, e74⟩ hnext hexit
            by_cases hu : u < A.length
            · have r1 : (u : Int) < (A.length : Int) := by omega
              have r7 : IntKind.i64.wrap ((u : Int) + 1) = ((u + 1 : Nat) : Int) := by rw [wrap_i64 (by omega) (by omega)]; rfl
              obtain ⟨i, hia⟩ : ∃ i, A[u]? = some i := ⟨A[u], List.getElem?_eq_getElem hu⟩
              have him : i ∈ A := List.mem_of_getElem? hia
              have hil : i < M.length := by rw [← hSM]; rw [hA] at him; exact probing_lt him
              have htk : A.take (u + 1) = A.take u ++ [i] := by rw [List.take_add_one, hia]; rfl
              have hni : ¬ i ∈ A.take u := fun hm => by
                obtain ⟨j, hj, hje⟩ := List.getElem_of_mem hm
                rw [List.length_take] at hj
                rw [List.getElem_take] at hje
                have h1 := (List.getElem?_eq_some_iff.1 hia).2
                exact List.pairwise_iff_getElem.1 hnd j u (by omega) hu (by omega) (hje.trans h1.symm)
              obtain ⟨s, hs⟩ : ∃ s, S[i]? = some s := ⟨S[i]'(by omega), List.getElem?_eq_getElem (by omega)⟩
              have hst1 : s.st = 1 := by rw [hA] at him; exact (probing_mem hs).1 him
              obtain ⟨q, hq, hqs⟩ := map_at hMs (show (at_ G (A.take u) S)[i]? = some s by rw [at_get, hs, Option.map_some, if_neg hni])
              obtain ⟨b, cs, bk, w1, w2, w3⟩ := loadI hP3.xa hia
              obtain ⟨b', cs', bk', x1, x2, x3⟩ := loadM hP3.L.r hq
              obtain ⟨b2, cs2, bk2, y1, y2, y3⟩ := loadB hP3.xw (wl_get f hil)
              obtain ⟨fr3, g3⟩ := hP3.L.g
              have gq := StOk.ptr hP3.L hq
              have hkk := hkb s (List.mem_of_getElem? hs)
              have hfi := hF i hil
              have q1 : q.s.st = 1 := by rw [hqs]; exact hst1
              have oq := (hP3.L.s i q hq).oa
              have mv : ∀ x c, own c = 0 → (h'.put q.a x).get c = h'.get c := fun x c hc => by rw [AH.get_put, if_neg (fun e => by rw [e, oq] at hc; omega)]
              cases hfb : f i
              · have hna : ¬ ansd lo hi S i = true := fun g => by rw [hfb] at hfi; exact absurd (hfi.2 ⟨him, g⟩) (by simp)
                have e1' : IntKind.i64.wrap (q.s.se + 1) = q.s.se + 1 := by rw [hqs]; exact wrap_i64 (by omega) (by omega)
                by_cases c2 : q.s.se + 1 = 10
                · obtain ⟨tL, tS⟩ := hP3.L.nums hq q.s.st q.s.k 10 q.s.n q.s.d
                  obtain ⟨hA1, eA⟩ : ∃ hA1, hA1 = h'.put q.a (.cells [q.s.rv, .int .i64 q.s.st, .int .i64 q.s.k, .int .i64 10, .int .i64 q.s.n, .int .i64 q.s.d, q.av, q.hv] .own) := ⟨_, rfl⟩
                  rw [← eA] at tL tS
                  have gA : hA1.get q.a = some (.cells [q.s.rv, .int .i64 q.s.st, .int .i64 q.s.k, .int .i64 10, .int .i64 q.s.n, .int .i64 q.s.d, q.av, q.hv] .own) := by rw [eA, AH.get_put, if_pos rfl]
                  have hqA : (M2.set i { q with s := { q.s with st := q.s.st, k := q.s.k, se := 10, n := q.s.n, d := q.s.d } })[i]? = some { q with s := { q.s with st := q.s.st, k := q.s.k, se := 10, n := q.s.n, d := q.s.d } } := List.getElem?_set_self (List.getElem?_eq_some_iff.1 hq).1
                  have sA : stm (some (.cells [q.s.rv, .int .i64 q.s.st, .int .i64 q.s.k, .int .i64 q.s.se, .int .i64 q.s.n, .int .i64 q.s.d, q.av, q.hv] .own)) h' q.a 3 (.int .i64 10) = some hA1 := by rw [eA]; rfl
                  obtain ⟨fr4, g4⟩ := tL.g
                  obtain ⟨hB, k1, k2⟩ := run41 h41 (m + 207) p q.a lo hi fr4 q.s.k sv q.s.rv q.av q.hv q.s.row q.s.st q.s.k 10 q.s.n q.s.d hA1 g4 tL.lt gA (tL.s i _ hqA).lt (hP3.L.s i q hq).rv hl (by rw [hqs]; exact hkk.1)
                  obtain ⟨N, hN⟩ : ∃ N, N = adrN lo hi q.s.row q.s.k := ⟨_, rfl⟩
                  obtain ⟨D, hD⟩ : ∃ D, D = adrD q.s.row q.s.k := ⟨_, rfl⟩
                  rw [← hN, ← hD] at k1
                  have tB := tL.grow k2
                  have gB := (k2.2 _ (tL.s i _ hqA).lt).trans gA
                  obtain ⟨tC, uC⟩ := tB.nums hqA 2 q.s.k 10 N D
                  simp only at tC uC
                  rw [List.set_set] at tC
                  have eC : (hB.put q.a (.cells [q.s.rv, .int .i64 2, .int .i64 q.s.k, .int .i64 10, .int .i64 q.s.n, .int .i64 q.s.d, q.av, q.hv] .own)).put q.a (.cells [q.s.rv, .int .i64 2, .int .i64 q.s.k, .int .i64 10, .int .i64 N, .int .i64 D, q.av, q.hv] .own) = hB.put q.a (.cells [q.s.rv, .int .i64 2, .int .i64 q.s.k, .int .i64 10, .int .i64 N, .int .i64 D, q.av, q.hv] .own) := put_put _ _ _ _
                  have w45 := st8_45 (h := hB.put q.a (.cells [q.s.rv, .int .i64 2, .int .i64 q.s.k, .int .i64 10, .int .i64 q.s.n, .int .i64 q.s.d, q.av, q.hv] .own)) (q := q.a) (x := N) (y := D) (by rw [AH.get_put, if_pos rfl])
                  rw [eC] at w45
                  have e2' := e1'.trans c2
                  have hmove := hP3.move (h2 := hB.put q.a (.cells [q.s.rv, .int .i64 2, .int .i64 q.s.k, .int .i64 10, .int .i64 N, .int .i64 D, q.av, q.hv] .own)) (by have := tS.1; have := k2.1; show h'.next ≤ hB.next; omega) (fun c hc ho => by
                    rw [AH.get_put, if_neg (fun e => by rw [e, oq] at ho; omega), k2.2 c (by have := tS.1; omega)]
                    exact (tS.2 c hc ho).1) tC
                  simp +contextual (maxSteps := 3000000) only [↓code_skip, ↓code_seq, ↓code_region, ↓code_cond, ↓code_block, aCond_bool, ↓ops_nil, ↓ops_cons, run_none, ↓run0_v, ↓run0_h, ↓run0_r, ↓seqK_normal, ↓blkK_normal, put_same, put_ne, put_none, ev_tmp, ev_const, ev_func, oc_int, o_move, o_assign, o_bin, o_call, o_load, o_store, o_nilCheck, o_fieldAddr, o_indexAddr, g_none, bin_add, bin_eql, bin_lss, nil_ptr, ↓reduceIte, Nat.reduceEqDiff, not_false_eq_true, Nat.reduceAdd, reduceCtorEq, List.getElem?_cons_zero, List.getElem?_cons_succ, Bool.false_eq_true, List.map_cons, List.map_nil, List.append_nil, List.nil_append, ne_eq, fa_ptr T58 p58_3 (by decide), load_p1 T56 a56, loadc_def, load_p1 T59 a59, fa_ptr T64 p64_1 (by decide), load_p1 T3 a3, run0_h, load_p1 T4 a4, fa_ptr T64 p64_2 (by decide), st_int T3 s3, fa_ptr T64 p64_3 (by decide), fa_ptr T64 p64_4 (by decide), e0, e6, e72, e73, e74, r1, w1, w2, w3, g3, x1, x2, x3, y1, y2, y3, hfb, gq, e2', sA, gA, k1, gB, st8_1, w45, run0_h, decide_true, r7, callV_fn (g := 41) (by decide)]
                  refine hnext (k - 1) _ _ (by omega) ⟨u + 1, M2.set i { q with s := { q.s with st := 2, k := q.s.k, se := 10, n := N, d := D } }, by omega, ?_, ?_, ?_, ?_, ?_, ?_, ?_, ?_⟩
                  · exact hmove
                  · exact (by rw [map_set_s, hMs, htk, at_step G hs, hG, hN, hD]; congr 1; unfold prF; rw [if_neg hna, ← hqs, if_pos c2])
                  · omega
                  · simp only [put_ne, not_false_eq_true, reduceCtorEq, ne_eq, e0]
                  · simp only [put_ne, Nat.reduceEqDiff, not_false_eq_true, ne_eq, e6]
                  · simp only [put_ne, Nat.reduceEqDiff, not_false_eq_true, ne_eq, e72]
                  · simp only [put_ne, Nat.reduceEqDiff, not_false_eq_true, ne_eq, e73]
                  · simp only [put_same]
                · obtain ⟨tL, tS⟩ := hP3.L.nums hq q.s.st q.s.k (q.s.se + 1) q.s.n q.s.d
                  have hmove := (fun hn hk => hP3.move hn hk tL) (Nat.le_refl _) (fun c hc ho => mv _ c ho)
                  simp +contextual (maxSteps := 3000000) only [↓code_skip, ↓code_seq, ↓code_region, ↓code_cond, ↓code_block, aCond_bool, ↓ops_nil, ↓ops_cons, run_none, ↓run0_v, ↓run0_h, ↓seqK_normal, ↓blkK_normal, put_same, put_ne, put_none, ev_tmp, ev_const, oc_int, o_move, o_assign, o_bin, o_load, o_store, o_nilCheck, o_fieldAddr, o_indexAddr, g_none, bin_add, bin_eql, bin_lss, nil_ptr, ↓reduceIte, Nat.reduceEqDiff, not_false_eq_true, Nat.reduceAdd, reduceCtorEq, List.getElem?_cons_zero, List.getElem?_cons_succ, Bool.false_eq_true, AH.get_put, ne_eq, fa_ptr T58 p58_3 (by decide), load_p1 T56 a56, loadc_def, load_p1 T59 a59, load_p1 T3 a3, run0_h, load_p1 T4 a4, st_int T3 s3, fa_ptr T64 p64_3 (by decide), e0, e6, e72, e73, e74, r1, w1, w2, w3, g3, x1, x2, x3, y1, y2, y3, hfb, gq, e1', c2, st8_3, run0_h, decide_true, decide_false, r7]
                  refine hnext (k - 1) _ _ (by omega) ⟨u + 1, M2.set i { q with s := { q.s with st := q.s.st, k := q.s.k, se := q.s.se + 1, n := q.s.n, d := q.s.d } }, by omega, ?_, ?_, ?_, ?_, ?_, ?_, ?_, ?_⟩
                  · exact hmove
                  · exact (by rw [map_set_s, hMs, htk, at_step G hs, hG]; congr 1; unfold prF; rw [if_neg hna, ← hqs, if_neg c2])
                  · omega
                  · simp only [put_ne, not_false_eq_true, reduceCtorEq, ne_eq, e0]
                  · simp only [put_ne, Nat.reduceEqDiff, not_false_eq_true, ne_eq, e6]
                  · simp only [put_ne, Nat.reduceEqDiff, not_false_eq_true, ne_eq, e72]
                  · simp only [put_ne, Nat.reduceEqDiff, not_false_eq_true, ne_eq, e73]
                  · simp only [put_same]
              · have hya : ansd lo hi S i = true := (hfi.1 hfb).2
                have e1' : IntKind.i64.wrap (q.s.k + 1) = q.s.k + 1 := by rw [hqs]; exact wrap_i64 (by omega) (by omega)
                by_cases c2 : q.s.k + 1 = 600
                · obtain ⟨tL, tS⟩ := hP3.L.nums hq 3 (q.s.k + 1) 0 q.s.n q.s.d
                  have hmove := (fun hn hk => hP3.move hn hk tL) (Nat.le_refl _) (fun c hc ho => mv _ c ho)
                  simp +contextual (maxSteps := 3000000) only [↓code_skip, ↓code_seq, ↓code_region, ↓code_cond, ↓code_block, ↓code_exit, aCond_bool, ↓ops_nil, ↓ops_cons, run_none, ↓run0_v, ↓run0_h, ↓seqK_normal, ↓seqK_exit, ↓blkK_exit, put_same, put_ne, put_none, ev_tmp, ev_const, oc_int, o_move, o_assign, o_bin, o_load, o_store, o_nilCheck, o_fieldAddr, o_indexAddr, g_none, bin_add, bin_eql, bin_lss, nil_ptr, ↓reduceIte, Nat.reduceEqDiff, not_false_eq_true, Nat.reduceAdd, reduceCtorEq, List.getElem?_cons_zero, List.getElem?_cons_succ, AH.get_put, ne_eq, fa_ptr T58 p58_3 (by decide), load_p1 T56 a56, loadc_def, load_p1 T59 a59, fa_ptr T64 p64_1 (by decide), load_p1 T3 a3, run0_h, load_p1 T4 a4, fa_ptr T64 p64_2 (by decide), st_int T3 s3, fa_ptr T64 p64_3 (by decide), e0, e6, e72, e73, e74, r1, w1, w2, w3, g3, x1, x2, x3, y1, y2, y3, hfb, gq, e1', eq_true c2, st8_1, st8_2, st8_3, put_put, run0_h, decide_true, r7]
                  refine hnext (k - 1) _ _ (by omega) ⟨u + 1, M2.set i { q with s := { q.s with st := 3, k := q.s.k + 1, se := 0, n := q.s.n, d := q.s.d } }, by omega, ?_, ?_, ?_, ?_, ?_, ?_, ?_, ?_⟩
                  · exact hmove
                  · exact (by rw [map_set_s, hMs, htk, at_step G hs, hG]; congr 1; unfold prF; rw [if_pos hya, ← hqs, if_pos c2])
                  · omega
                  · simp only [put_ne, not_false_eq_true, reduceCtorEq, ne_eq, e0]
                  · simp only [put_ne, Nat.reduceEqDiff, not_false_eq_true, ne_eq, e6]
                  · simp only [put_ne, Nat.reduceEqDiff, not_false_eq_true, ne_eq, e72]
                  · simp only [put_ne, Nat.reduceEqDiff, not_false_eq_true, ne_eq, e73]
                  · simp only [put_same]
                · obtain ⟨tL, tS⟩ := hP3.L.nums hq q.s.st (q.s.k + 1) 0 q.s.n q.s.d
                  have hmove := (fun hn hk => hP3.move hn hk tL) (Nat.le_refl _) (fun c hc ho => mv _ c ho)
                  simp +contextual (maxSteps := 3000000) only [↓code_skip, ↓code_seq, ↓code_region, ↓code_cond, ↓code_block, ↓code_exit, aCond_bool, ↓ops_nil, ↓ops_cons, run_none, ↓run0_v, ↓run0_h, ↓seqK_normal, ↓seqK_exit, ↓blkK_exit, put_same, put_ne, put_none, ev_tmp, ev_const, oc_int, o_move, o_assign, o_bin, o_load, o_store, o_nilCheck, o_fieldAddr, o_indexAddr, g_none, bin_add, bin_eql, bin_lss, nil_ptr, ↓reduceIte, Nat.reduceEqDiff, not_false_eq_true, Nat.reduceAdd, reduceCtorEq, List.getElem?_cons_zero, List.getElem?_cons_succ, Bool.false_eq_true, AH.get_put, ne_eq, fa_ptr T58 p58_3 (by decide), load_p1 T56 a56, loadc_def, load_p1 T59 a59, load_p1 T3 a3, run0_h, load_p1 T4 a4, fa_ptr T64 p64_2 (by decide), st_int T3 s3, fa_ptr T64 p64_3 (by decide), e0, e6, e72, e73, e74, r1, w1, w2, w3, g3, x1, x2, x3, y1, y2, y3, hfb, gq, e1', c2, st8_2, st8_3, put_put, run0_h, decide_true, decide_false, r7]
                  refine hnext (k - 1) _ _ (by omega) ⟨u + 1, M2.set i { q with s := { q.s with st := q.s.st, k := q.s.k + 1, se := 0, n := q.s.n, d := q.s.d } }, by omega, ?_, ?_, ?_, ?_, ?_, ?_, ?_, ?_⟩
                  · exact hmove
                  · exact (by rw [map_set_s, hMs, htk, at_step G hs, hG]; congr 1; unfold prF; rw [if_pos hya, ← hqs, if_neg c2])
                  · omega
                  · simp only [put_ne, not_false_eq_true, reduceCtorEq, ne_eq, e0]
                  · simp only [put_ne, Nat.reduceEqDiff, not_false_eq_true, ne_eq, e6]
                  · simp only [put_ne, Nat.reduceEqDiff, not_false_eq_true, ne_eq, e72]
                  · simp only [put_ne, Nat.reduceEqDiff, not_false_eq_true, ne_eq, e73]
                  · simp only [put_same]
            · have r1 : ¬ (u : Int) < (A.length : Int) := by omega
              rw [List.take_of_length_le (by omega), hG, hA, at_probing] at hMs
              simp +contextual (maxSteps := 3000000) only [↓code_seq, ↓code_region, ↓code_cond, ↓code_exit, aCond_bool, ↓ops_nil, ↓ops_cons, run_none, ↓run0_v, ↓seqK_normal, ↓seqK_exit, put_same, ev_tmp, o_bin, g_none, bin_lss, decide_eq_true_eq, ↓reduceIte, e73, e74, r1]
              refine hexit _ _ _ (by simp) ⟨h', M2, ?_, hP3.L, hMs, hP3.st⟩
              simp +contextual (maxSteps := 3000000) only [↓blkK_exit, ↓retK_normal, resultsOf, oneOrAll, Option.map_some, ↓reduceIte]
          · refine ⟨0, M, by omega, ?_, ?_, ?_, ?_, ?_, ?_, ?_, ?_⟩
            · exact hP2
            · exact (by rw [← hS]; apply List.ext_getElem?; intro j; rw [at_get]; cases S[j]? <;> simp)
            · omega
            · simp only [put_ne, not_false_eq_true, reduceCtorEq, ne_eq, e0]
            · simp only [put_ne, Nat.reduceEqDiff, not_false_eq_true, ne_eq, e6]
            · simp only [put_same, put_ne, Nat.reduceEqDiff, not_false_eq_true, ne_eq]
            · simp only [put_same, put_ne, Nat.reduceEqDiff, not_false_eq_true, ne_eq]
            · simp only [put_same]; rfl
      · refine ⟨0, fun _ => false, by omega, ?_, ?_, ?_, ?_, ?_, ?_, ?_, ?_, ?_, ?_⟩
        · exact hP1
        · (intro j hj; simp)
        · omega
        · simp only [put_ne, not_false_eq_true, reduceCtorEq, ne_eq, e0]
        · simp only [put_ne, Nat.reduceEqDiff, not_false_eq_true, ne_eq, e2]
        · simp only [put_ne, Nat.reduceEqDiff, not_false_eq_true, ne_eq, e3]
        · simp only [put_same, put_ne, Nat.reduceEqDiff, not_false_eq_true, ne_eq]
        · simp only [put_same, put_ne, Nat.reduceEqDiff, not_false_eq_true, ne_eq]
        · simp only [put_same, put_ne, Nat.reduceEqDiff, not_false_eq_true, ne_eq]
        · simp only [put_same]; rfl
  · refine ⟨0, .nils, .nils, by omega, ?_, ?_, ?_, ?_, ?_, ?_, ?_, ?_⟩
    · exact hP0
    · omega
    · simp only [put_ne, env0_at, Option.getD_some, not_false_eq_true, reduceCtorEq, List.getElem?_cons_zero, ne_eq]
    · simp only [put_same, put_ne, Nat.reduceEqDiff, not_false_eq_true, ne_eq]
    · simp only [put_same, put_ne, Nat.reduceEqDiff, not_false_eq_true, ne_eq]
    · simp only [put_same, put_ne, Nat.reduceEqDiff, not_false_eq_true, ne_eq]
    · simp only [put_same, put_ne, Nat.reduceEqDiff, not_false_eq_true, ne_eq]
    · simp only [put_same]; rfl
end Go.AM.X
