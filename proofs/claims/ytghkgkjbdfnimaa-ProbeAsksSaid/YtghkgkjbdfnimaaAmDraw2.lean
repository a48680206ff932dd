/- Regions whose order is open: which operations may pass one another. Own work. -/
import Derived.Test.YtghkgkjbdfnimaaAmDraw1
namespace Go.AM
open Go Go.RowKit
set_option linter.unusedVariables false
set_option linter.unusedSimpArgs false
set_option linter.unusedSectionVars false

theorem run0_inv {x : Out} {h : AH} {K : AV → AH → Rs} {r : AV × AH} (hr : x.run0 h K = some r) :
    ∃ v h', x.run0 h (fun v h' => some (v, h')) = some (v, h') ∧ K v h' = some r := by
  cases x with
  | v y => obtain ⟨v, hv, hK⟩ := Option.bind_eq_some_iff.1 hr; exact ⟨v, h, by simp [Out.run0, hv], hK⟩
  | h y => obtain ⟨v, hv, hK⟩ := Option.bind_eq_some_iff.1 hr; exact ⟨.bad, v, by simp [Out.run0, hv], hK⟩
  | r y => obtain ⟨v, hv, hK⟩ := Option.bind_eq_some_iff.1 hr; exact ⟨v.1, v.2, by simp [Out.run0, hv], hK⟩

theorem run_inv {x : Out} {g : Option (AV × Bool)} {h : AH} {K : AV → AH → Rs} {r : AV × AH} (hr : x.run g h K = some r) :
    ∃ v h', x.run g h (fun v h' => some (v, h')) = some (v, h') ∧ K v h' = some r := by
  unfold Out.run at hr ⊢
  cases g with
  | none => exact run0_inv hr
  | some p =>
    obtain ⟨g, want⟩ := p
    simp only at hr ⊢
    cases hw : wants g want with
    | none => simp [hw] at hr
    | some b =>
      cases b with
      | true => simp only [hw] at hr ⊢; exact run0_inv hr
      | false => simp only [hw] at hr ⊢; exact ⟨_, _, rfl, hr⟩

theorem guardOf_congr {all : Array Oper} {o : Oper} {e e' : Env} (hl : ∀ t ∈ o.looksAt all, e t = e' t) : guardOf all o e = guardOf all o e' := by
  unfold guardOf
  cases hg : o.guard with
  | none => rfl
  | some jw =>
    obtain ⟨j, w⟩ := jw
    simp only
    cases hd : (all[j]?).bind (·.dst) with
    | none => rfl
    | some d =>
      simp only
      rw [hl d (by unfold Oper.looksAt; refine List.mem_append_right _ ?_; simp [hg, hd])]

theorem stepV_congr {C : Cf} {T : TT} {all : Array Oper} {o : Oper} {e e' : Env} {h : AH} (hl : ∀ t ∈ o.looksAt all, e t = e' t) : stepV C T all o e h = stepV C T all o e' h := by
  unfold stepV; rw [outOf_congr hl, guardOf_congr hl]

theorem run0_val {x : Out} {h : AH} {v : AV} {h' : AH} : x.run0 h (fun v h' => some (v, h')) = some (v, h') ↔ x.val h = some (v, h') := by
  cases x <;> simp [Out.run0, Out.val, Option.bind_eq_some_iff]

/-- The step out of what the operation itself comes to. -/
theorem stepV_iff {C : Cf} {T : TT} {all : Array Oper} {o : Oper} {e : Env} {h : AH} {v : AV} {h' : AH} :
    stepV C T all o e h = some (v, h') ↔
      (match guardOf all o e with
       | none => (outOf C T o e h).val h = some (v, h')
       | some p => match wants p.1 p.2 with
         | some true => (outOf C T o e h).val h = some (v, h')
         | some false => v = .tup [] ∧ h' = h
         | none => False) := by
  unfold stepV Out.run
  cases hg : guardOf all o e with
  | none => exact run0_val
  | some p =>
    obtain ⟨g, w⟩ := p
    simp only
    cases hw : wants g w with
    | none => simp
    | some b =>
      cases b with
      | true => exact run0_val
      | false =>
        simp only [Option.some.injEq, Prod.mk.injEq]
        constructor <;> (rintro ⟨rfl, rfl⟩; exact ⟨rfl, rfl⟩)

theorem aBin_indep {T : TT} {op : BinOp} {t : TypeId} {x y : AV} (hp : op = .eql ∨ op = .neq → isPtr T t = false) (h h2 : AH) : aBin T op t x y h = aBin T op t x y h2 := by
  unfold aBin
  split
  · rfl
  · rfl
  · rename_i b o b' o'
    cases hq : isPtr T t with
    | false => rfl
    | true =>
      simp only
      cases op <;> first | rfl | (have := hp (by simp); rw [hq] at this; cases this)
  · rfl

theorem out_pure {C : Cf} {T : TT} {o : Oper} {e : Env} {h : AH} {v : AV} {h' : AH} (hc : clsOf T o.op = .pure) (hv : (outOf C T o e h).val h = some (v, h')) :
    h' = h ∧ ∀ h2, (outOf C T o e h2).val h2 = some (v, h2) := by
  obtain ⟨dst, op, type, pos, after, guard⟩ := o
  simp only at hc
  unfold outOf at hv ⊢
  cases op <;> simp only [clsOf] at hc <;> try (cases hc; done)
  case binOp op t x y yt =>
    simp only [Out.val, Option.map_eq_some_iff, Prod.mk.injEq] at hv ⊢
    obtain ⟨u, hu, rfl, rfl⟩ := hv
    refine ⟨rfl, fun h2 => ⟨u, ?_, rfl, trivial⟩⟩
    rw [← aBin_indep (T := T) (op := op) (t := t) ?_ h h2]; exact hu
    intro hop
    rcases hop with rfl | rfl <;> (simp only at hc; cases hq : isPtr T t with
      | false => rfl
      | true => rw [hq] at hc; cases hc)
  case convert s d x =>
    simp only [Out.val] at hv ⊢
    unfold aConv at hv ⊢
    cases hs : T s with
    | none => simp [hs] at hv
    | some ts =>
      cases hd : T d with
      | none => simp [hs, hd] at hv
      | some td =>
        simp only [hs, hd] at hv hc ⊢
        cases hde : td.desc <;> simp only [hde] at hv hc <;> try (first | (cases hc; done) | (simp at hv; done))
        · cases hx : ev e x <;> simp only [hx] at hv ⊢ <;> try (simp at hv; done)
          cases hv; exact ⟨rfl, fun _ => rfl⟩
        · cases hx : ev e x <;> simp only [hx] at hv ⊢ <;> cases hts : ts.desc <;> simp only [hts] at hv hc ⊢ <;> first
            | (cases hc; done)
            | (simp at hv; done)
            | (cases hv; exact ⟨rfl, fun _ => rfl⟩)
  case call c =>
    obtain ⟨callee, args, argTypes⟩ := c
    cases callee with
    | value f => simp at hc
    | invoke r m => simp at hc
    | builtin b =>
      simp only at hv ⊢
      cases b <;> simp only at hc <;> try (cases hc; done)
      case len =>
        cases ha : args.toList with
        | nil => simp [ha, Out.val] at hv
        | cons x l =>
          cases l with
          | cons y l => simp [ha, Out.val] at hv
          | nil =>
            cases ht : argTypes.toList with
            | nil => simp [ha, ht, Out.val] at hv
            | cons t l =>
              cases l with
              | cons y l => simp [ha, ht, Out.val] at hv
              | nil =>
                simp only [ha, ht, Out.val, Option.map_eq_some_iff, Prod.mk.injEq] at hv hc ⊢
                obtain ⟨u, hu, rfl, rfl⟩ := hv
                refine ⟨rfl, fun h2 => ⟨u, ?_, rfl, trivial⟩⟩
                unfold aLen at hu ⊢
                cases hT : T t with
                | none => simp [hT] at hu
                | some ti =>
                  simp only [hT] at hu hc ⊢
                  cases hd : ti.desc <;> cases hx : ev e x <;> simp only [hd, hx] at hu hc ⊢ <;> first
                    | exact hu
                    | (cases hc; done)
                    | (cases hu; done)
      all_goals
        cases ha : args.toList with
        | nil => simp [ha, Out.val] at hv
        | cons x l =>
          cases l with
          | nil => simp [ha, Out.val] at hv
          | cons y l =>
            cases l with
            | cons z l => simp [ha, Out.val] at hv
            | nil =>
              simp only [ha, Out.val, Option.map_eq_some_iff, Prod.mk.injEq] at hv ⊢
              obtain ⟨u, hu, rfl, rfl⟩ := hv
              exact ⟨rfl, fun h2 => ⟨u, hu, rfl, trivial⟩⟩
  case makeFunc fn first caps =>
    cases fn <;> simp only [Out.val, Option.map_eq_some_iff, Prod.mk.injEq] at hv ⊢ <;> (obtain ⟨u, hu, rfl, rfl⟩ := hv; exact ⟨rfl, fun h2 => ⟨u, hu, rfl, trivial⟩⟩)
  all_goals
    simp only [Out.val, Option.map_eq_some_iff, Prod.mk.injEq] at hv ⊢
    obtain ⟨u, hu, rfl, rfl⟩ := hv
    exact ⟨rfl, fun h2 => ⟨u, hu, rfl, trivial⟩⟩


/-- The one heap goes on as the other by new blocks alone. -/
structure AExt (h h2 : AH) : Prop where
  next : h.next ≤ h2.next
  get : ∀ b, b < h.next → h2.get b = h.get b
theorem AExt.refl (h : AH) : AExt h h := ⟨Nat.le_refl _, fun _ _ => rfl⟩
theorem AExt.trans {a b c : AH} (h : AExt a b) (k : AExt b c) : AExt a c :=
  ⟨Nat.le_trans h.next k.next, fun x hx => (k.get x (Nat.lt_of_lt_of_le hx h.next)).trans (h.get x hx)⟩
theorem AExt.alloc (h : AH) (x : AB) : AExt h (h.alloc x) := ⟨by simp, fun b hb => by rw [AH.get_alloc, if_neg (by omega)]⟩

/-- Every pointer among the values that are looked at leads below a number. -/
def ptrBelow (n : Nat) : AV → Prop
  | .ptr b _ => b < n
  | .sl b _ _ _ _ _ => b < n
  | .mp b => b < n
  | _ => True

theorem loadn_agree {h h2 : AH} {b o n : Nat} (hg : h2.get b = h.get b) : h2.loadn b o n = h.loadn b o n := by unfold AH.loadn; rw [hg]
theorem loadc_agree {h h2 : AH} {b o : Nat} (hg : h2.get b = h.get b) : h2.loadc b o = h.loadc b o := by unfold AH.loadc; rw [hg]

/-- What only reads comes to the same where the blocks that it reads are the same. -/
theorem out_read {C : Cf} {T : TT} {o : Oper} {e : Env} {h h2 : AH} {v : AV} {h' : AH} (hc : clsOf T o.op = .read) (hv : (outOf C T o e h).val h = some (v, h'))
    (hg : ∀ x ∈ o.op.operands, ∀ b, (∃ n, ev e x = .ptr b n) ∨ (∃ a c d f g, ev e x = .sl b a c d f g) ∨ ev e x = .mp b → (∃ x, h.get b = some x) → h2.get b = h.get b) :
    h' = h ∧ (outOf C T o e h2).val h2 = some (v, h2) := by
  obtain ⟨dst, op, type, pos, after, guard⟩ := o
  simp only at hc hg
  unfold outOf at hv ⊢
  cases op <;> simp only [clsOf] at hc <;> try (cases hc; done)
  case load t x =>
    simp only [Out.val, Option.map_eq_some_iff, Prod.mk.injEq] at hv ⊢
    obtain ⟨u, hu, rfl, rfl⟩ := hv
    refine ⟨rfl, u, ?_, rfl, trivial⟩
    unfold aLoad at hu ⊢
    cases hx : ev e x <;> simp only [hx] at hu ⊢ <;> try (cases hu; done)
    case fp => exact hu
    rename_i b o
    have this : h2.get b = h.get b := by
      refine hg x (by simp [Op.operands]) b (.inl ⟨o, hx⟩) ?_
      cases hb : h.get b with
      | some y => exact ⟨y, rfl⟩
      | none =>
        exfalso
        simp only [AH.loadn, AH.loadc, hb] at hu
        revert hu
        cases T t with
        | none => simp
        | some ti => simp only; cases ti.agg <;> simp
    have e1 : ∀ n, h2.loadn b o n = h.loadn b o n := fun n => loadn_agree this
    have e2 : h2.loadc b o = h.loadc b o := loadc_agree this
    simp only [e1, e2]; exact hu
  case binOp op t x y yt =>
    simp only [Out.val, Option.map_eq_some_iff, Prod.mk.injEq] at hv ⊢
    obtain ⟨u, hu, rfl, rfl⟩ := hv
    refine ⟨rfl, u, ?_, rfl, trivial⟩
    unfold aBin at hu ⊢
    cases hx : ev e x <;> cases hy : ev e y <;> simp only [hx, hy] at hu ⊢ <;> try exact hu
    rename_i b o b' o'
    have h0 : (∃ x, h.get b = some x) ∧ ∃ x, h.get b' = some x := by
      cases hb : h.get b with
      | none => cases hq : isPtr T t <;> cases op <;> simp [eqP, hb, hq] at hu
      | some y => cases hb' : h.get b' with
        | none => cases hq : isPtr T t <;> cases op <;> simp [eqP, hb, hb', hq] at hu
        | some z => exact ⟨⟨y, rfl⟩, ⟨z, rfl⟩⟩
    have h1 := hg x (by simp [Op.operands]) b (.inl ⟨o, hx⟩) h0.1
    have h3 := hg y (by simp [Op.operands]) b' (.inl ⟨o', hy⟩) h0.2
    have : eqP h2 b o b' o' = eqP h b o b' o' := by unfold eqP; rw [h1, h3]
    rw [this]; exact hu
  case convert s d x =>
    simp only [Out.val] at hv ⊢
    unfold aConv at hv ⊢
    cases hs : T s with
    | none => simp [hs] at hv
    | some ts =>
      cases hd : T d with
      | none => simp [hs, hd] at hv
      | some td =>
        simp only [hs, hd] at hv hc ⊢
        cases hde : td.desc <;> simp only [hde] at hv hc <;> try (first | (cases hc; done) | (simp at hv; done))
        cases hts : ts.desc <;> simp only [hts] at hv hc <;> try (cases hc; done)
        cases hx : ev e x <;> simp only [hx] at hv ⊢ <;> try (cases hv; done)
        · rename_i el
          cases hu8 : isU8 T el <;> simp only [hu8] at hv ⊢
          · cases hv
          · cases hv; exact ⟨rfl, rfl⟩
        · rename_i el b o len cap sz ex
          cases hu8 : isU8 T el <;> simp only [hu8] at hv ⊢
          · cases hv
          · have := hg x (by simp [Op.operands]) b (.inr (.inl ⟨_, _, _, _, _, hx⟩)) (by
              cases hb : h.get b with
              | some y => exact ⟨y, rfl⟩
              | none => simp [AH.loadn, hb] at hv)
            rw [loadn_agree this]
            cases hl : h.loadn b o len with
            | none => simp [hl] at hv
            | some cs =>
              simp only [hl, Option.map_eq_some_iff, Prod.mk.injEq] at hv ⊢
              obtain ⟨s, hs', rfl, rfl⟩ := hv
              exact ⟨rfl, s, hs', rfl, trivial⟩
        · rename_i el ex sz n cs
          cases hu8 : isU8 T el <;> simp only [hu8] at hv ⊢
          · cases hv
          · split at hv
            · rename_i h1
              rw [if_pos h1]
              simp only [Option.map_eq_some_iff, Prod.mk.injEq] at hv ⊢
              obtain ⟨s, hs', rfl, rfl⟩ := hv
              exact ⟨rfl, s, hs', rfl, trivial⟩
            · cases hv
  case call c =>
    obtain ⟨callee, args, argTypes⟩ := c
    cases callee with
    | value f => simp at hc
    | invoke r m => simp at hc
    | builtin b =>
      simp only at hv ⊢
      cases b <;> simp only at hc <;> try (cases hc; done)
      case len =>
        cases ha : args.toList with
        | nil => simp [ha, Out.val] at hv
        | cons x l =>
          cases l with
          | cons y l => simp [ha, Out.val] at hv
          | nil =>
            cases ht : argTypes.toList with
            | nil => simp [ha, ht, Out.val] at hv
            | cons t l =>
              cases l with
              | cons y l => simp [ha, ht, Out.val] at hv
              | nil =>
                simp only [ha, ht, Out.val, Option.map_eq_some_iff, Prod.mk.injEq] at hv hc ⊢
                obtain ⟨u, hu, rfl, rfl⟩ := hv
                refine ⟨rfl, u, ?_, rfl, trivial⟩
                unfold aLen at hu ⊢
                cases hT : T t with
                | none => simp [hT] at hu
                | some ti =>
                  simp only [hT] at hu hc ⊢
                  cases hd : ti.desc <;> cases hx : ev e x <;> simp only [hd, hx] at hu hc ⊢ <;> first
                    | exact hu
                    | (cases hc; done)
                    | (cases hu; done)
                    | skip
                  rename_i b
                  have hxm : x ∈ (Op.call ⟨.builtin .len, args, argTypes⟩).operands := by
                    have : args = #[x] := by apply Array.ext'; simpa using ha
                    subst this
                    simp [Op.operands, Call.operands]
                  rw [hg x hxm b (.inr (.inr hx)) (by
                    cases hb : h.get b with
                    | some y => exact ⟨y, rfl⟩
                    | none => simp [hb] at hu)]; exact hu

/-- What makes a new block makes just that. -/
theorem out_alloc {C : Cf} {T : TT} {o : Oper} {e : Env} {h : AH} {v : AV} {h' : AH} (hc : clsOf T o.op = .alloc) (hv : (outOf C T o e h).val h = some (v, h')) : ∃ x, h' = h.alloc x := by
  obtain ⟨dst, op, type, pos, after, guard⟩ := o
  simp only at hc
  unfold outOf at hv
  cases op <;> simp only [clsOf] at hc <;> try (cases hc; done)
  case alloc t =>
    simp only [Out.val, aAlloc] at hv
    split at hv <;> cases hv
    exact ⟨_, rfl⟩
  case box t x =>
    simp only [Out.val, aBox] at hv
    split at hv <;> cases hv
    exact ⟨_, rfl⟩
  case buildSlice t n ps =>
    simp only [Out.val, aBuildSlice] at hv
    repeat' split at hv
    all_goals cases hv
    exact ⟨_, rfl⟩
  case makeSlice t l c =>
    simp only [Out.val, aMakeSlice] at hv
    repeat' split at hv
    all_goals cases hv
    exact ⟨_, rfl⟩
  case binOp op t x y yt =>
    cases op <;> simp only at hc <;> first
      | (cases hc; done)
      | (cases hq : isPtr T t <;> rw [hq] at hc <;> cases hc)
  case convert s d x =>
    simp only [Out.val] at hv
    unfold aConv at hv
    cases hs : T s with
    | none => simp [hs] at hv
    | some ts =>
      cases hd : T d with
      | none => simp [hs, hd] at hv
      | some td =>
        simp only [hs, hd] at hv hc
        cases hde : td.desc <;> simp only [hde] at hv hc <;> try (first | (cases hc; done) | (simp at hv; done))
        · cases hts : ts.desc <;> simp only [hts] at hc <;> cases hc
        · cases hx : ev e x <;> simp only [hx] at hv <;> try (cases hv; done)
          repeat' split at hv
          all_goals cases hv
          exact ⟨_, rfl⟩
  case call c =>
    obtain ⟨callee, args, argTypes⟩ := c
    cases callee with
    | value f => simp at hc
    | invoke r m => simp at hc
    | builtin b =>
      cases b <;> simp only at hc <;> try (cases hc; done)
      cases ht : argTypes.toList with
      | nil => simp [ht] at hc
      | cons t l =>
        simp only [ht] at hc
        cases hT : T t with
        | none => simp [hT] at hc
        | some ti => simp only [hT] at hc; cases hd : ti.desc <;> simp only [hd] at hc <;> cases hc

end Go.AM
