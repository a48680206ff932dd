/- Regions whose order is open: plain facts. Own work. -/
import Derived.Test.YtghkgkjbdfnimaaAmSound
namespace Go.AM
open Go Go.RowKit
set_option linter.unusedVariables false
set_option linter.unusedSimpArgs false
set_option linter.unusedSectionVars false

inductive Reach (E : Nat → List Nat) : Nat → Nat → Prop where
  | base {j i : Nat} (h : i ∈ E j) : Reach E j i
  | step {j e i : Nat} (h : e ∈ E j) (r : Reach E e i) : Reach E j i

theorem Reach.closed {E : Nat → List Nat} {S : Nat → Prop} (hS : ∀ j, S j → ∀ e ∈ E j, S e) {j i : Nat} (hr : Reach E j i) (hj : ∀ e ∈ E j, S e) : S i := by
  induction hr with
  | base h => exact hj _ h
  | step h r ih => exact ih (hS _ (hj _ h))

theorem testBit_closN (cl : List Nat) : ∀ (es : List Nat) (s i : Nat), (es.foldl (fun s e => s ||| 2 ^ e ||| cl.getD e 0) s).testBit i = true →
    s.testBit i = true ∨ ∃ e ∈ es, i = e ∨ (cl.getD e 0).testBit i = true
  | [], s, i, h => .inl h
  | e :: es, s, i, h => by
    rw [List.foldl_cons] at h
    rcases testBit_closN cl es _ i h with h | ⟨e', he', h⟩
    · rw [Nat.testBit_or, Nat.testBit_or, Bool.or_eq_true, Bool.or_eq_true] at h
      rcases h with (h | h) | h
      · exact .inl h
      · refine .inr ⟨e, by simp, .inl ?_⟩
        rw [Nat.testBit_two_pow] at h
        simpa using (of_decide_eq_true h).symm
      · exact .inr ⟨e, by simp, .inr h⟩
    · exact .inr ⟨e', by simp [he'], h⟩

def edgesAt (all : Array Oper) (j : Nat) : List Nat := match all[j]? with
  | some o => edges o
  | none => []

theorem clos_sound (all : Array Oper) : ∀ (l : List Oper) (cl : List Nat), (∃ pre, all.toList = pre ++ l ∧ pre.length = cl.length) →
    (∀ j i, (cl.getD j 0).testBit i = true → Reach (edgesAt all) j i) → ∀ j i, ((clos l cl).getD j 0).testBit i = true → Reach (edgesAt all) j i
  | [], cl, _, h => h
  | o :: l, cl, ⟨pre, hp, hl⟩, h => by
    refine clos_sound all l _ ⟨pre ++ [o], by simp [hp], by simp [hl]⟩ ?_
    intro j i hb
    by_cases hj : j < cl.length
    · rw [List.getD_eq_getElem?_getD, List.getElem?_append_left hj] at hb
      exact h j i (by rw [List.getD_eq_getElem?_getD]; exact hb)
    · by_cases hj2 : j = cl.length
      · subst hj2
        rw [List.getD_eq_getElem?_getD, List.getElem?_append_right (Nat.le_refl _)] at hb
        simp only [Nat.sub_self, List.getElem?_cons_zero, Option.getD_some] at hb
        have ho : all[cl.length]? = some o := by
          rw [← Array.getElem?_toList, hp, List.getElem?_append_right (by omega)]
          simp [hl]
        have he : edgesAt all cl.length = edges o := by simp [edgesAt, ho]
        rcases testBit_closN cl (edges o) 0 i hb with h0 | ⟨e, hem, h1⟩
        · simp at h0
        · rcases h1 with rfl | h1
          · exact .base (by rw [he]; exact hem)
          · exact .step (by rw [he]; exact hem) (h e i h1)
      · rw [List.getD_eq_getElem?_getD, List.getElem?_append_right (by omega)] at hb
        have : ([closN cl (edges o)] : List Nat)[j - cl.length]? = none := by simp; omega
        rw [this] at hb
        simp at hb

/-- What the look at a region says of two of its operations. -/
structure PairOk (T : TT) (all : Array Oper) (i j : Nat) (p o : Oper) : Prop where
  or : Reach (edgesAt all) j i ∨ (mayPass2 (clsOf T p.op) (clsOf T o.op) = true ∧ (∀ d, p.dst = some d → d ∉ names all o) ∧ (∀ d, o.dst = some d → d ∉ names all p))

theorem drawOk_pairs {T : TT} {all : Array Oper} (h : drawOk T all = true) {i j : Nat} {p o : Oper} (hi : all[i]? = some p) (hj : all[j]? = some o) (hij : i < j) : PairOk T all i j p o := by
  unfold drawOk at h
  simp only [List.all_eq_true] at h
  have hjm : (o, j) ∈ all.toList.zipIdx := by
    rw [List.mem_zipIdx_iff_getElem?]; simpa using hj
  have him : (p, i) ∈ all.toList.zipIdx := by
    rw [List.mem_zipIdx_iff_getElem?]; simpa using hi
  have h1 := h (o, j) hjm
  simp only [Bool.and_eq_true, List.all_eq_true] at h1
  have h2 := h1.2 (p, i) him
  simp only [Bool.or_eq_true, Bool.not_eq_true', decide_eq_false_iff_not, Bool.and_eq_true] at h2
  rcases h2 with (h2 | h2) | ⟨⟨h2, h3⟩, h4⟩
  · exact absurd hij h2
  · exact ⟨.inl (clos_sound all all.toList [] ⟨[], by simp, rfl⟩ (by intro j i hb; simp at hb) j i h2)⟩
  · refine ⟨.inr ⟨h2, fun d hd => ?_, fun d hd => ?_⟩⟩
    · rw [hd] at h3; simpa using h3
    · rw [hd] at h4; simpa using h4

theorem drawOk_edges {T : TT} {all : Array Oper} (h : drawOk T all = true) {j : Nat} {o : Oper} (hj : all[j]? = some o) : ∀ e ∈ edges o, e < j := by
  unfold drawOk at h
  simp only [List.all_eq_true] at h
  have hjm : (o, j) ∈ all.toList.zipIdx := by
    rw [List.mem_zipIdx_iff_getElem?]; simpa using hj
  have h1 := h (o, j) hjm
  simp only [Bool.and_eq_true, List.all_eq_true, decide_eq_true_eq] at h1
  exact h1.1

/-! What an operation looks at. -/
theorem ev_congr {e e' : Env} {x : Operand} (h : ∀ t, x = .tmp t → e t = e' t) : ev e x = ev e' x := by
  cases x <;> first | exact h _ rfl | rfl

theorem outOf_congr {C : Cf} {T : TT} {all : Array Oper} {o : Oper} {e e' : Env} {h : AH} (hl : ∀ t ∈ o.looksAt all, e t = e' t) : outOf C T o e h = outOf C T o e' h := by
  have hx : ∀ x ∈ o.op.operands, ev e x = ev e' x := by
    intro x hx
    refine ev_congr fun t ht => hl t ?_
    subst ht
    unfold Oper.looksAt
    refine List.mem_append_left _ ?_
    rw [List.mem_filterMap]
    exact ⟨.tmp t, by simpa using hx, rfl⟩
  obtain ⟨dst, op, type, pos, after, guard⟩ := o
  simp only at hx
  unfold outOf
  cases op <;> simp only [Op.operands] at hx ⊢ <;> try rfl
  case move x => rw [hx x (by simp)]
  case assign x => rw [hx x (by simp)]
  case pick c a b => rw [hx c (by simp), hx a (by simp), hx b (by simp)]
  case box t x => rw [hx x (by simp)]
  case build t ps =>
    have : parts e ps = parts e' ps := by
      unfold parts
      refine List.map_congr_left fun p hp => ?_
      rw [hx p.2 (by simp; exact ⟨p.1, by simpa using hp⟩)]
    rw [this]
  case buildSlice t n ps =>
    have : parts e ps = parts e' ps := by
      unfold parts
      refine List.map_congr_left fun p hp => ?_
      rw [hx p.2 (by simp; exact ⟨p.1, by simpa using hp⟩)]
    rw [this]
  case load t x => rw [hx x (by simp)]
  case store t x y => rw [hx x (by simp), hx y (by simp)]
  case nilCheck x => rw [hx x (by simp)]
  case binOp op t x y yt => rw [hx x (by simp), hx y (by simp)]
  case unOp op t x => rw [hx x (by simp)]
  case convert s d x => rw [hx x (by simp)]
  case makeFunc fn first caps =>
    have h1 : first.toList.map (ev e) = first.toList.map (ev e') := List.map_congr_left fun x hxm => hx x (by simp; exact .inl (by simpa using hxm))
    have h2 : caps.toList.map (ev e) = caps.toList.map (ev e') := List.map_congr_left fun x hxm => hx x (by simp; exact .inr (by simpa using hxm))
    rw [h1, h2]
  case makeSlice t l c => rw [hx l (by simp), hx c (by simp)]
  case slice t x lo hi mx =>
    have ho : ∀ y : Option Operand, (∀ z, y = some z → z ∈ #[x] ++ lo.toArray ++ hi.toArray ++ mx.toArray) → y.map (ev e) = y.map (ev e') := by
      intro y hy
      cases y with
      | none => rfl
      | some z => simp [hx z (hy z rfl)]
    rw [hx x (by simp), ho lo (by intro z hz; subst hz; simp), ho hi (by intro z hz; subst hz; simp), ho mx (by intro z hz; subst hz; simp)]
  case fieldAddr t x f => rw [hx x (by simp)]
  case field t x f => rw [hx x (by simp)]
  case indexAddr t x i => rw [hx x (by simp), hx i (by simp)]
  case index t x i => rw [hx x (by simp), hx i (by simp)]
  case extract x i => rw [hx x (by simp)]
  case range t x => rw [hx x (by simp)]
  case lookup t x k ok => rw [hx x (by simp), hx k (by simp)]
  case mapUpdate t m k x => rw [hx m (by simp), hx k (by simp), hx x (by simp)]
  case makeMap t r =>
    cases r with
    | none => rfl
    | some r => simp only [Option.map_some]; rw [hx r (by simp)]
  case next x s => rw [hx x (by simp)]
  case call c =>
    obtain ⟨callee, args, argTypes⟩ := c
    have hargs : args.toList.map (ev e) = args.toList.map (ev e') := List.map_congr_left fun x hxm => hx x (by simp [Call.operands]; exact .inr (by simpa using hxm))
    cases callee with
    | value f => simp only; rw [hx f (by simp [Call.operands]), hargs]
    | invoke r m => rfl
    | builtin b =>
      simp only
      have hm : ∀ x ∈ args.toList, ev e x = ev e' x := fun x hxm => hx x (by simp [Call.operands]; simpa using hxm)
      split <;> rename_i h1 h2 <;> simp_all

end Go.AM
