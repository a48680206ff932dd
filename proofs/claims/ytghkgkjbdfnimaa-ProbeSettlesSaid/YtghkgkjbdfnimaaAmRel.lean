/- The relation between abstract values and heaps and the machine's own. Own work. -/
import Derived.Test.YtghkgkjbdfnimaaAmCore
import Derived.Laws.Sem
import Derived.Laws.World
import Derived.Laws.Cells
import Derived.Below
import Derived.Lib.LaidTab
import Derived.Lib.ItoaNum
namespace Go.AM
open Go
set_option linter.unusedVariables false

/-- Where an abstract block lies: the block, the place in it, the block's size. -/
structure Img where
  m : Nat → Option (Nat × Nat × Nat)
  fz : Nat → Option (Array Value)
  old : Nat → Prop := fun _ => True
  res : Nat → Prop := fun _ => False
instance : CoeFun Img fun _ => Nat → Option (Nat × Nat × Nat) := ⟨Img.m⟩
def Img.emp (n : Nat) : Img := ⟨fun _ => .none, fun _ => .none, (· < n), fun _ => False⟩

mutual
def VR (μ : Img) : AV → Value → Prop
  | .bad, _ => True
  | .bool b, v => v = .bool b
  | .int k n, v => v = .int k n
  | .str s, v => v = .string ⟨⟨s⟩⟩
  | .nilp, v => v = .pointer none
  | .ptr b o, v => ∃ cb δ N, μ b = some (cb, δ, N) ∧ v = .pointer (some ⟨cb, δ + o, none⟩)
  | .nils, v => v = .slice none 0 0
  | .sl b o len cap sz ex, v => ∃ cb δ N a c, μ b = some (cb, δ, N) ∧ v = .slice (some a) len c ∧ (c = 0 ∨ (a = ⟨cb, δ + o, none⟩ ∧ δ + o + c * sz ≤ N)) ∧
      len ≤ cap ∧ cap ≤ c ∧ (ex = true → c = cap)
  | .nilm, v => v = .map none
  | .mp b, v => ∃ cb δ N, μ b = some (cb, δ, N) ∧ v = .map (some cb)
  | .nilf, v => v = .nilFunc
  | .fn f first caps, v => ∃ fs cs : Array Value, v = .func (.func f) fs cs ∧ VRL μ first fs.toList ∧ VRL μ caps cs.toList
  | .agg cs, v => ∃ vs : Array Value, v = .agg vs ∧ VRL μ cs vs.toList
  | .tup cs, v => ∃ vs : Array Value, v = .tuple vs ∧ VRL μ cs vs.toList
  | .yld b, v => ∃ cb δ N, μ b = some (cb, δ, N) ∧ v = .func (.yield cb) #[] #[]
  | .lst ex sz n cs, v => ∃ a c, v = .slice a n c ∧ n ≤ c ∧ (ex = true → c = n) ∧ cs.length = n * sz ∧ (a = none → n = 0 ∧ c = 0) ∧
      (0 < n → ∃ cb off arr, a = some ⟨cb, off, none⟩ ∧ μ.fz cb = some arr ∧ off + n * sz ≤ arr.size ∧ VRL μ cs ((arr.toList.drop off).take (n * sz)))
  | .fp cs, v => ∃ cb off arr, v = .pointer (some ⟨cb, off, none⟩) ∧ μ.fz cb = some arr ∧ off + cs.length ≤ arr.size ∧ VRL μ cs ((arr.toList.drop off).take cs.length)
  | .mark _, _ => True
def VRL (μ : Img) : List AV → List Value → Prop
  | [], vs => vs = []
  | a :: as, vs => ∃ v rest, vs = v :: rest ∧ VR μ a v ∧ VRL μ as rest
end

/-- More blocks are named; more are known not to turn (none of the oldest). -/
structure Img.le (μ μ' : Img) : Prop where
  m : ∀ b x, μ b = some x → μ' b = some x
  fz : ∀ cb arr, μ.fz cb = some arr → μ'.fz cb = some arr
  old : μ'.old = μ.old
  new : ∀ cb arr, μ'.fz cb = some arr → μ.fz cb = some arr ∨ ¬ μ.old cb
  res : μ'.res = μ.res
/-- More is named. -/
structure Img.sub (μ μ' : Img) : Prop where
  m : ∀ b x, μ b = some x → μ' b = some x
  fz : ∀ cb arr, μ.fz cb = some arr → μ'.fz cb = some arr
theorem Img.le.sub {μ μ' : Img} (h : μ.le μ') : μ.sub μ' := ⟨h.m, h.fz⟩
theorem Img.sub.trans {μ μ' μ'' : Img} (h : μ.sub μ') (h' : μ'.sub μ'') : μ.sub μ'' := ⟨fun b x hx => h'.m b x (h.m b x hx), fun b x hx => h'.fz b x (h.fz b x hx)⟩
theorem Img.le.refl (μ : Img) : μ.le μ := ⟨fun _ _ h => h, fun _ _ h => h, rfl, fun _ _ h => .inl h, rfl⟩
theorem Img.le.trans {μ μ' μ'' : Img} (h : μ.le μ') (h' : μ'.le μ'') : μ.le μ'' :=
  ⟨fun b x hx => h'.m b x (h.m b x hx), fun b x hx => h'.fz b x (h.fz b x hx), h'.old.trans h.old, fun cb arr hx => by
    rcases h'.new cb arr hx with h1 | h1
    · exact h.new cb arr h1
    · rw [h.old] at h1; exact .inr h1, h'.res.trans h.res⟩

mutual
theorem VR.sub {μ μ' : Img} (hm : μ.sub μ') : ∀ {a : AV} {v : Value}, VR μ a v → VR μ' a v
  | .bad, _, _ => trivial
  | .bool _, _, h => h
  | .int _ _, _, h => h
  | .str _, _, h => h
  | .nilp, _, h => h
  | .ptr _ _, _, ⟨cb, δ, N, h, e⟩ => ⟨cb, δ, N, hm.m _ _ h, e⟩
  | .nils, _, h => h
  | .sl .., _, ⟨cb, δ, N, a, c, h, r⟩ => ⟨cb, δ, N, a, c, hm.m _ _ h, r⟩
  | .nilm, _, h => h
  | .mp _, _, ⟨cb, δ, N, h, e⟩ => ⟨cb, δ, N, hm.m _ _ h, e⟩
  | .nilf, _, h => h
  | .fn _ _ _, _, ⟨fs, cs, e, h1, h2⟩ => ⟨fs, cs, e, VRL.sub hm h1, VRL.sub hm h2⟩
  | .agg _, _, ⟨vs, e, h⟩ => ⟨vs, e, VRL.sub hm h⟩
  | .tup _, _, ⟨vs, e, h⟩ => ⟨vs, e, VRL.sub hm h⟩
  | .yld _, _, ⟨cb, δ, N, h, e⟩ => ⟨cb, δ, N, hm.m _ _ h, e⟩
  | .lst .., _, ⟨a, c, h1, h2, h3, h4, h5, h6⟩ => ⟨a, c, h1, h2, h3, h4, h5, fun hn => let ⟨cb, off, arr, g1, g2, g3, g4⟩ := h6 hn; ⟨cb, off, arr, g1, hm.fz _ _ g2, g3, VRL.sub hm g4⟩⟩
  | .fp _, _, ⟨cb, off, arr, g1, g2, g3, g4⟩ => ⟨cb, off, arr, g1, hm.fz _ _ g2, g3, VRL.sub hm g4⟩
  | .mark _, _, _ => trivial
theorem VRL.sub {μ μ' : Img} (hm : μ.sub μ') : ∀ {as : List AV} {vs : List Value}, VRL μ as vs → VRL μ' as vs
  | [], _, h => h
  | _ :: _, _, ⟨v, rest, e, h, hr⟩ => ⟨v, rest, e, VR.sub hm h, VRL.sub hm hr⟩
end

theorem VR.mono {μ μ' : Img} (hm : μ.le μ') {a : AV} {v : Value} (h : VR μ a v) : VR μ' a v := VR.sub hm.sub h
theorem VRL.mono {μ μ' : Img} (hm : μ.le μ') {as : List AV} {vs : List Value} (h : VRL μ as vs) : VRL μ' as vs := VRL.sub hm.sub h

section lists
variable {μ : Img}
theorem VRL.nil : VRL μ [] [] := by simp [VRL]
theorem VRL.cons {a : AV} {v : Value} {as : List AV} {vs : List Value} (h : VR μ a v) (hr : VRL μ as vs) : VRL μ (a :: as) (v :: vs) := by
  rw [VRL]; exact ⟨v, vs, rfl, h, hr⟩
theorem VRL.cons_inv {a : AV} {as : List AV} {vs : List Value} (h : VRL μ (a :: as) vs) : ∃ v rest, vs = v :: rest ∧ VR μ a v ∧ VRL μ as rest := by
  rw [VRL] at h; exact h
theorem VRL.nil_inv {vs : List Value} (h : VRL μ [] vs) : vs = [] := by rw [VRL] at h; exact h

theorem VRL.length {as : List AV} : ∀ {vs : List Value}, VRL μ as vs → as.length = vs.length := by
  induction as with
  | nil => intro vs h; rw [h.nil_inv]; rfl
  | cons a as ih => intro vs h; obtain ⟨v, rest, rfl, _, hr⟩ := h.cons_inv; simp [ih hr]

theorem VRL.get {as : List AV} : ∀ {vs : List Value} {j : Nat} {a : AV}, VRL μ as vs → as[j]? = some a → ∃ v, vs[j]? = some v ∧ VR μ a v := by
  induction as with
  | nil => intro vs j a _ h; simp at h
  | cons x as ih =>
    intro vs j a h hj
    obtain ⟨v, rest, rfl, hv, hr⟩ := h.cons_inv
    cases j with
    | zero => simp at hj; subst hj; exact ⟨v, by simp, hv⟩
    | succ j => simp at hj; obtain ⟨u, hu, hr'⟩ := ih hr hj; exact ⟨u, by simpa using hu, hr'⟩

theorem VRL.of_get {as : List AV} : ∀ {vs : List Value}, as.length = vs.length → (∀ (j : Nat) (a : AV), as[j]? = some a → ∃ v, vs[j]? = some v ∧ VR μ a v) → VRL μ as vs := by
  induction as with
  | nil => intro vs hl _; have : vs = [] := List.length_eq_zero_iff.1 hl.symm; subst this; exact VRL.nil
  | cons x as ih =>
    intro vs hl h
    cases vs with
    | nil => simp at hl
    | cons v vs =>
      obtain ⟨u, hu, hv⟩ := h 0 x (by simp)
      simp at hu; subst hu
      exact VRL.cons hv (ih (by simpa using hl) fun j a hj => by simpa using h (j + 1) a (by simpa using hj))

theorem VRL.append {as bs : List AV} {vs us : List Value} (h : VRL μ as vs) (h' : VRL μ bs us) : VRL μ (as ++ bs) (vs ++ us) := by
  induction as generalizing vs with
  | nil => rw [h.nil_inv]; exact h'
  | cons a as ih => obtain ⟨v, rest, rfl, hv, hr⟩ := h.cons_inv; exact VRL.cons hv (ih hr)

theorem VRL.take {as : List AV} {vs : List Value} (h : VRL μ as vs) (n : Nat) : VRL μ (as.take n) (vs.take n) := by
  induction as generalizing vs n with
  | nil => rw [h.nil_inv]; simp; exact VRL.nil
  | cons a as ih =>
    obtain ⟨v, rest, rfl, hv, hr⟩ := h.cons_inv
    cases n with
    | zero => exact VRL.nil
    | succ n => exact VRL.cons hv (ih hr n)

theorem VRL.drop {as : List AV} {vs : List Value} (h : VRL μ as vs) (n : Nat) : VRL μ (as.drop n) (vs.drop n) := by
  induction as generalizing vs n with
  | nil => rw [h.nil_inv]; simp; exact VRL.nil
  | cons a as ih =>
    obtain ⟨v, rest, rfl, hv, hr⟩ := h.cons_inv
    cases n with
    | zero => exact VRL.cons hv hr
    | succ n => exact ih hr n

theorem VRL.map {α : Type} {f : α → AV} {g : α → Value} {l : List α} (h : ∀ x ∈ l, VR μ (f x) (g x)) : VRL μ (l.map f) (l.map g) := by
  induction l with
  | nil => exact VRL.nil
  | cons x l ih => exact VRL.cons (h x (by simp)) (ih fun y hy => h y (by simp [hy]))
end lists

theorem VR.cells {μ : Img} {a : AV} {v : Value} {cs : List AV} (h : VR μ a v) (hc : a.cells = some cs) : VRL μ cs v.cells.toList := by
  cases a with
  | bad => simp [AV.cells] at hc
  | tup _ => simp [AV.cells] at hc
  | mark _ => simp [AV.cells] at hc
  | agg xs =>
    simp [AV.cells] at hc; subst hc
    rw [VR] at h; obtain ⟨vs, rfl, h⟩ := h
    simpa [Value.cells] using h
  | _ =>
    simp only [AV.cells, Option.some.injEq] at hc; subst hc
    refine (?_ : VRL μ [_] v.cells.toList)
    have : v.cells = #[v] := by
      rw [VR] at h
      first
        | (subst h; rfl)
        | (obtain ⟨_, _, _, _, rfl⟩ := h; rfl)
        | (obtain ⟨_, _, _, _, _, _, rfl, _⟩ := h; rfl)
        | (obtain ⟨_, _, rfl, _⟩ := h; rfl)
        | (obtain ⟨_, _, _, rfl, _⟩ := h; rfl)
    rw [this]
    exact VRL.cons h VRL.nil

theorem VR.one {μ : Img} {a : AV} {v : Value} (h : VR μ a v) (ho : a.one = true) : v.oneCell' = true := by
  cases a <;> simp [AV.one] at ho <;> rw [VR] at h <;>
    first
      | (subst h; rfl)
      | (obtain ⟨_, _, _, _, rfl⟩ := h; rfl)
      | (obtain ⟨_, _, _, _, _, _, rfl, _⟩ := h; rfl)
      | (obtain ⟨_, _, rfl, _⟩ := h; rfl)
      | (obtain ⟨_, _, _, rfl, _⟩ := h; rfl)

/-! ### Heaps -/
structure CellsR (μ : Img) (cs : List AV) (arr : Array Value) (δ : Nat) : Prop where
  len : δ + cs.length ≤ arr.size
  rel : ∀ (j : Nat) (a : AV), cs[j]? = some a → ∃ v, arr[δ + j]? = some v ∧ VR μ a v

theorem CellsR.sub {μ μ' : Img} (hm : μ.sub μ') {cs : List AV} {arr : Array Value} {δ : Nat} (h : CellsR μ cs arr δ) : CellsR μ' cs arr δ :=
  ⟨h.len, fun j a hj => let ⟨v, hv, r⟩ := h.rel j a hj; ⟨v, hv, r.sub hm⟩⟩
theorem CellsR.mono {μ μ' : Img} (hm : μ.le μ') {cs : List AV} {arr : Array Value} {δ : Nat} (h : CellsR μ cs arr δ) : CellsR μ' cs arr δ := h.sub hm.sub

structure EntsR (μ : Img) (es : List (AV × AV)) (ents : Array MapEntry) : Prop where
  len : es.length = ents.size
  rel : ∀ (j : Nat) (k v : AV), es[j]? = some (k, v) → ∃ e : MapEntry, ents[j]? = some e ∧ VR μ k e.key ∧ VR μ v e.val

theorem EntsR.sub {μ μ' : Img} (hm : μ.sub μ') {es : List (AV × AV)} {ents : Array MapEntry} (h : EntsR μ es ents) : EntsR μ' es ents :=
  ⟨h.len, fun j k v hj => let ⟨e, he, r1, r2⟩ := h.rel j k v hj; ⟨e, he, r1.sub hm, r2.sub hm⟩⟩
theorem EntsR.mono {μ μ' : Img} (hm : μ.le μ') {es : List (AV × AV)} {ents : Array MapEntry} (h : EntsR μ es ents) : EntsR μ' es ents := h.sub hm.sub

def AB.live : AB → Bool
  | .cells _ .ro => false
  | .cells _ _ => true
  | .map _ => true
  | .dead => false
  | .dfr => true
  | .iter .. => true
  | .loop .. => true

def exCode : Ex → Code
  | .normal => .skip
  | .exit i => .exit i
  | .ret => .ret

def LStR : LSt → LoopState → Option Code → Prop
  | .ready, s, p => s = .ready ∧ p = none
  | .busy, s, p => s = .busy ∧ p = none
  | .done ex, s, p => s = .done ∧ p = some (exCode ex)

/-- Which blocks were there before the call: they stay as they are. -/
structure BS (P : Program) where
  p : Nat → Prop
instance {P : Program} : CoeFun (BS P) fun _ => Nat → Prop := ⟨BS.p⟩
instance {P : Program} : CoeOut (BS P) (Nat → Prop) := ⟨BS.p⟩
/-- The tables of the library's that are read. -/
def tablesOf (P : Program) (k : Nat) : Option (Array Value) :=
  if P.globalNamed "internal/strconv.uint64pow10" = some k then some ((Lib.pow10Tab.map fun z => Value.int .u64 z).toArray) else none

/-- Of the old blocks nothing has turned. -/
structure BelowS (B : Nat → Prop) (w w' : World) : Prop where
  os : w'.os = w.os
  tape : w'.tape = w.tape
  output : w'.output = w.output
  size : w.heap.size ≤ w'.heap.size
  block : ∀ k, B k → w'.heap[k]? = w.heap[k]?

theorem BelowS.refl (B : Nat → Prop) (w : World) : BelowS B w w := ⟨rfl, rfl, rfl, Nat.le_refl _, fun _ _ => rfl⟩
theorem BelowS.trans {B : Nat → Prop} {a b c : World} (h : BelowS B a b) (k : BelowS B b c) : BelowS B a c :=
  ⟨k.os.trans h.os, k.tape.trans h.tape, k.output.trans h.output, Nat.le_trans h.size k.size, fun i hi => (k.block i hi).trans (h.block i hi)⟩
theorem BelowS.mono {B B' : Nat → Prop} {w w' : World} (h : BelowS B w w') (hB : ∀ k, B' k → B k) : BelowS B' w w' := ⟨h.os, h.tape, h.output, h.size, fun k hk => h.block k (hB k hk)⟩
theorem BelowS.below {n : Nat} {w w' : World} (h : BelowS (· < n) w w') : Go.RowKit.Below n w w' := ⟨h.os, h.tape, h.output, h.size, h.block⟩

def BR (B : Nat → Prop) (μ : Img) (H : Array Obj) (b : Nat) : AB → Prop
  | .dead => True
  | .cells cs k => ∃ cb δ N arr el fz, μ b = some (cb, δ, N) ∧ H[cb]? = some (.cells arr el fz) ∧ CellsR μ cs arr δ ∧ (k = .ro → False) ∧
      (k ≠ .ro → ¬ B cb ∧ arr.size = N ∧ (∀ off, off < N → ¬ (fz.1 ≤ off ∧ off < fz.2)) ∧ (k = .own → fz = (0, 0)))
  | .map es => ∃ cb δ N ents clock, μ b = some (cb, δ, N) ∧ H[cb]? = some (.map ents clock) ∧ ¬ B cb ∧ EntsR μ es ents
  | .dfr => ∃ cb δ N, μ b = some (cb, δ, N) ∧ H[cb]? = some (.deferred (some [])) ∧ ¬ B cb
  | .iter s pos => ∃ cb δ N, μ b = some (cb, δ, N) ∧ H[cb]? = some (.stringIter ⟨⟨s⟩⟩ pos) ∧ ¬ B cb ∧ δ = 0
  | .loop e ps asg bdy st => ∃ cb δ N r, μ b = some (cb, δ, N) ∧ H[cb]? = some (.loop r) ∧ ¬ B cb ∧ r.params.toList = ps ∧ r.assign = asg ∧ r.body = bdy ∧
      (∀ t, VR μ (e t) (r.tmps.getD t undef)) ∧ (∀ p ∈ ps, p < r.tmps.size) ∧ dstOk r.tmps.size asg = true ∧ dstOk r.tmps.size bdy = true ∧ LStR st r.state r.pending

structure HR {P : Program} (B : BS P) (μ : Img) (h : AH) (H : Array Obj) : Prop where
  dom : ∀ b x, μ b = some x → b < h.next ∧ x.1 < H.size
  blk : ∀ b x, h.get b = some x → b < h.next ∧ BR B μ H b x
  inj : ∀ b b' x x' y y', b ≠ b' → h.get b = some x → h.get b' = some x' → x.live = true → x'.live = true → μ b = some y → μ b' = some y' → y.1 ≠ y'.1
  base : ∀ k, B k → k < H.size
  frz : ∀ cb arr, μ.fz cb = some arr → (∃ el f, H[cb]? = some (.cells arr el f)) ∧ ∀ b x y, h.get b = some x → x.live = true → μ b = some y → y.1 ≠ cb
  old : ∀ k, μ.old k → k < H.size
  res : ∀ b, μ.res b → μ b = none ∧ b < h.next
  tab : ∀ k arr, tablesOf P k = some arr → μ.fz k = some arr

theorem HR.frz_lt {P : Program} {B : BS P} {μ : Img} {h : AH} {H : Array Obj} (hr : HR B μ h H) {cb : Nat} {arr : Array Value} (hf : μ.fz cb = some arr) : cb < H.size := by
  obtain ⟨⟨el, f, hc⟩, _⟩ := hr.frz cb arr hf
  exact (Array.getElem?_eq_some_iff.1 hc).1

def Img.upd (μ : Img) (b : Nat) (x : Nat × Nat × Nat) : Img := { μ with m := fun c => if c = b then some x else μ c }
theorem Img.upd_at (μ : Img) (b : Nat) (x : Nat × Nat × Nat) (c : Nat) : (μ.upd b x) c = if c = b then some x else μ c := rfl
theorem Img.upd_fz (μ : Img) (b : Nat) (x : Nat × Nat × Nat) : (μ.upd b x).fz = μ.fz := rfl

theorem Img.le_upd {μ : Img} {b : Nat} {x : Nat × Nat × Nat} (h : μ b = none) : μ.le (μ.upd b x) := by
  refine ⟨?_, fun _ _ h => h, rfl, fun _ _ h => .inl h, rfl⟩
  intro c y hy
  rw [Img.upd_at]
  by_cases e : c = b
  · subst e; rw [h] at hy; cases hy
  · rw [if_neg e]; exact hy

theorem HR.fresh {P : Program} {B : BS P} {μ : Img} {h : AH} {H : Array Obj} (hr : HR B μ h H) : μ h.next = none := by
  cases hm : μ h.next with
  | none => rfl
  | some x => exact absurd (hr.dom _ _ hm).1 (Nat.lt_irrefl _)

theorem AH.get_alloc (h : AH) (x : AB) (b : Nat) : (h.alloc x).get b = if b = h.next then some x else h.get b := PT.get_set _ _ _ _
theorem AH.get_put (h : AH) (b : Nat) (x : AB) (c : Nat) : (h.put b x).get c = if c = b then some x else h.get c := PT.get_set _ _ _ _
@[simp] theorem AH.next_alloc (h : AH) (x : AB) : (h.alloc x).next = h.next + 1 := rfl
@[simp] theorem AH.next_put (h : AH) (b : Nat) (x : AB) : (h.put b x).next = h.next := rfl

/-- What a block says stays so where its own place in memory stays as it is. -/
theorem BR.keepS {B : Nat → Prop} {μ μ' : Img} {H H' : Array Obj} {b : Nat} {x : AB} (hm : μ.sub μ')
    (hk : ∀ cb δ N, μ b = some (cb, δ, N) → H'[cb]? = H[cb]?) (h : BR B μ H b x) : BR B μ' H' b x := by
  cases x with
  | dead => trivial
  | cells cs k =>
    obtain ⟨cb, δ, N, arr, el, fz, h1, h2, h3, h4⟩ := h
    exact ⟨cb, δ, N, arr, el, fz, hm.m _ _ h1, by rw [hk _ _ _ h1]; exact h2, h3.sub hm, h4⟩
  | dfr =>
    obtain ⟨cb, δ, N, h1, h2, h3⟩ := h
    exact ⟨cb, δ, N, hm.m _ _ h1, by rw [hk _ _ _ h1]; exact h2, h3⟩
  | iter s pos =>
    obtain ⟨cb, δ, N, h1, h2, h3⟩ := h
    exact ⟨cb, δ, N, hm.m _ _ h1, by rw [hk _ _ _ h1]; exact h2, h3⟩
  | loop e ps asg bdy st =>
    obtain ⟨cb, δ, N, r, h1, h2, h3, h4, h5, h6, h7, h8⟩ := h
    exact ⟨cb, δ, N, r, hm.m _ _ h1, by rw [hk _ _ _ h1]; exact h2, h3, h4, h5, h6, fun t => (h7 t).sub hm, h8⟩
  | map es =>
    obtain ⟨cb, δ, N, ents, clock, h1, h2, h3, h4⟩ := h
    exact ⟨cb, δ, N, ents, clock, hm.m _ _ h1, by rw [hk _ _ _ h1]; exact h2, h3, h4.sub hm⟩

theorem BR.keep {B : Nat → Prop} {μ μ' : Img} {H H' : Array Obj} {b : Nat} {x : AB} (hm : μ.le μ')
    (hk : ∀ cb δ N, μ b = some (cb, δ, N) → H'[cb]? = H[cb]?) (h : BR B μ H b x) : BR B μ' H' b x := h.keepS hm.sub hk

theorem HR.alloc {P : Program} {B : BS P} {μ : Img} {h : AH} {H : Array Obj} (hr : HR B μ h H) (x : AB) (o : Obj) (δ N : Nat)
    (hx : BR B (μ.upd h.next (H.size, δ, N)) (H.push o) h.next x) :
    HR B (μ.upd h.next (H.size, δ, N)) (h.alloc x) (H.push o) := by
  have hle : μ.le (μ.upd h.next (H.size, δ, N)) := Img.le_upd hr.fresh
  constructor
  · intro b y hy
    rw [Img.upd_at] at hy
    split at hy
    · rename_i e; cases hy; subst e; exact ⟨Nat.lt_succ_self _, by simp⟩
    · have := hr.dom b y hy; exact ⟨Nat.lt_succ_of_lt this.1, by simp; omega⟩
  · intro b y hy
    rw [AH.get_alloc] at hy
    split at hy
    · rename_i e; cases hy; subst e; exact ⟨Nat.lt_succ_self _, hx⟩
    · have := hr.blk b y hy
      refine ⟨Nat.lt_succ_of_lt this.1, this.2.keep hle fun cb δ N hb => ?_⟩
      have hlt := (hr.dom b _ hb).2
      exact Array.getElem?_push_lt hlt |>.trans (by simp [hlt])
  · intro b b' y y' z z' hne hb hb' hl hl' hz hz'
    rw [AH.get_alloc] at hb hb'
    rw [Img.upd_at] at hz hz'
    by_cases e : b = h.next
    · have e' : b' ≠ h.next := fun e' => hne (e.trans e'.symm)
      rw [if_pos e] at hz; rw [if_neg e'] at hz' hb'
      cases hz
      have := (hr.dom b' _ hz').2
      show H.size ≠ _
      omega
    · rw [if_neg e] at hz hb
      by_cases e' : b' = h.next
      · rw [if_pos e'] at hz'; cases hz'
        have := (hr.dom b _ hz).2
        show _ ≠ H.size
        omega
      · rw [if_neg e'] at hz' hb'
        exact hr.inj b b' y y' z z' hne hb hb' hl hl' hz hz'
  · intro k hk; have := hr.base k hk; simp; omega
  · intro cb arr hf
    have hlt := hr.frz_lt hf
    obtain ⟨⟨el, f, hc⟩, hn⟩ := hr.frz cb arr hf
    refine ⟨⟨el, f, by rw [Array.getElem?_push_lt hlt]; simpa [hlt] using hc⟩, fun b y z hb hl hz => ?_⟩
    rw [AH.get_alloc] at hb
    rw [Img.upd_at] at hz
    by_cases e : b = h.next
    · rw [if_pos e] at hz; cases hz; show H.size ≠ cb; omega
    · rw [if_neg e] at hb hz; exact hn b y z hb hl hz
  · intro k hk; have := hr.old k hk; simp; omega
  · intro b hb
    have h1 := hr.res b hb
    exact ⟨by rw [Img.upd_at, if_neg (by omega)]; exact h1.1, Nat.lt_succ_of_lt h1.2⟩
  · exact hr.tab

/-- A block of the call's own is written. -/
theorem HR.write {P : Program} {B : BS P} {μ : Img} {h : AH} {H : Array Obj} (hr : HR B μ h H) {b cb δ N : Nat} {x x' : AB} {o : Obj}
    (hb : h.get b = some x) (hl : x.live = true) (hm : μ b = some (cb, δ, N)) (hcb : ¬ B cb) (hx : BR B μ (H.setIfInBounds cb o) b x') :
    HR B μ (h.put b x') (H.setIfInBounds cb o) := by
  constructor
  · intro c y hy; have := hr.dom c y hy; exact ⟨this.1, by simpa using this.2⟩
  · intro c y hy
    rw [AH.get_put] at hy
    split at hy
    · rename_i e; cases hy; subst e; exact ⟨(hr.blk _ _ hb).1, hx⟩
    · rename_i hne
      have := hr.blk c y hy
      refine ⟨this.1, ?_⟩
      cases hyl : y.live with
      | true =>
        refine this.2.keep (Img.le.refl _) fun cb' δ' N' hc => ?_
        have := hr.inj c b y x _ _ hne hy hb hyl hl hc hm
        exact Array.getElem?_setIfInBounds_ne (fun e => this e.symm)
      | false =>
        cases y with
        | dead => trivial
        | map es => simp [AB.live] at hyl
        | cells cs k =>
          have hk : k = .ro := by cases k <;> simp [AB.live] at hyl ⊢
          refine this.2.keep (Img.le.refl _) fun cb' δ' N' hc => ?_
          obtain ⟨cb2, δ2, N2, arr, el, fz, h1, h2, h3, h4, _⟩ := this.2
          rw [hc] at h1; cases h1
          exact (h4 hk).elim
        | dfr => simp [AB.live] at hyl
        | iter => simp [AB.live] at hyl
        | loop => simp [AB.live] at hyl
  · intro c c' y y' z z' hne hc hc' hyl hyl' hz hz'
    rw [AH.get_put] at hc hc'
    by_cases e : c = b
    · subst e
      rw [if_neg (fun e => hne e.symm)] at hc'
      exact hr.inj c c' x y' z z' hne hb hc' hl hyl' hz hz'
    · rw [if_neg e] at hc
      by_cases e' : c' = b
      · subst e'; exact hr.inj c c' y x z z' hne hc hb hyl hl hz hz'
      · rw [if_neg e'] at hc'; exact hr.inj c c' y y' z z' hne hc hc' hyl hyl' hz hz'
  · simpa using hr.base
  · intro cb' arr hf
    obtain ⟨⟨el, f, hc⟩, hn⟩ := hr.frz cb' arr hf
    have hne := hn b x _ hb hl hm
    refine ⟨⟨el, f, by rw [Array.getElem?_setIfInBounds_ne hne]; exact hc⟩, fun c y z hcy hyl hz => ?_⟩
    rw [AH.get_put] at hcy
    by_cases e : c = b
    · subst e; rw [hm] at hz; cases hz; exact hne
    · rw [if_neg e] at hcy; exact hn c y z hcy hyl hz
  · intro k hk; have := hr.old k hk; simpa using this
  · exact hr.res
  · exact hr.tab

/-- A block is forgotten, and what lay there goes on as a new one. -/
theorem HR.moveTo {P : Program} {B : BS P} {μ : Img} {h : AH} {H : Array Obj} (hr : HR B μ h H) {b cb δ N δ' : Nat} {x x' : AB} {o : Obj}
    (hb : h.get b = some x) (hl : x.live = true) (hm : μ b = some (cb, δ, N)) (hcb : ¬ B cb) (hlt : cb < H.size)
    (hx : BR B (μ.upd h.next (cb, δ', N)) (H.setIfInBounds cb o) h.next x') :
    HR B (μ.upd h.next (cb, δ', N)) ((h.put b .dead).alloc x') (H.setIfInBounds cb o) := by
  have hbn : b ≠ h.next := fun e => absurd (hr.blk b x hb).1 (by omega)
  have hw := hr.write (x' := .dead) (o := o) hb hl hm hcb trivial
  have hle : μ.le (μ.upd h.next (cb, δ', N)) := Img.le_upd hr.fresh
  constructor
  · intro c y hy
    rw [Img.upd_at] at hy
    split at hy
    · rename_i e; cases hy; subst e; exact ⟨Nat.lt_succ_self _, by simpa using hlt⟩
    · have := hw.dom c y hy; exact ⟨Nat.lt_succ_of_lt this.1, this.2⟩
  · intro c y hy
    rw [AH.get_alloc] at hy
    split at hy
    · rename_i e; cases hy; subst e; exact ⟨Nat.lt_succ_self _, hx⟩
    · have := hw.blk c y hy
      exact ⟨Nat.lt_succ_of_lt this.1, this.2.keep hle fun _ _ _ _ => rfl⟩
  · intro c c' y y' z z' hne hc hc' hyl hyl' hz hz'
    have hg : ∀ c, ((h.put b .dead).alloc x').get c = if c = h.next then some x' else (h.put b .dead).get c := fun c => AH.get_alloc _ _ _
    rw [hg] at hc hc'
    rw [Img.upd_at] at hz hz'
    have key : ∀ c y z, (h.put b .dead).get c = some y → y.live = true → μ c = some z → z.1 ≠ cb := by
      intro c y z hc hyl hz
      rw [AH.get_put] at hc
      split at hc
      · cases hc; simp [AB.live] at hyl
      · rename_i hne
        have := hr.inj c b y x z _ hne hc hb hyl hl hz hm
        simpa using this
    by_cases e : c = h.next
    · have e' : c' ≠ h.next := fun e' => hne (e.trans e'.symm)
      rw [if_pos e] at hz; rw [if_neg e'] at hz' hc'
      cases hz
      exact fun e => key c' y' z' hc' hyl' hz' e.symm
    · rw [if_neg e] at hz hc
      by_cases e' : c' = h.next
      · rw [if_pos e'] at hz'; cases hz'
        exact key c y z hc hyl hz
      · rw [if_neg e'] at hz' hc'
        exact hw.inj c c' y y' z z' hne hc hc' hyl hyl' hz hz'
  · exact hw.base
  · intro cb' arr hf
    obtain ⟨h1, hn⟩ := hw.frz cb' arr hf
    refine ⟨h1, fun c y z hcy hyl hz => ?_⟩
    have hg : ((h.put b .dead).alloc x').get c = if c = h.next then some x' else (h.put b .dead).get c := AH.get_alloc _ _ _
    rw [hg] at hcy
    rw [Img.upd_at] at hz
    by_cases e : c = h.next
    · rw [if_pos e] at hz; cases hz
      exact (hr.frz cb' arr hf).2 b x (cb, δ, N) hb hl hm
    · rw [if_neg e] at hcy hz; exact hn c y z hcy hyl hz
  · exact hw.old
  · intro b hb
    have h1 := hr.res b hb
    exact ⟨by rw [Img.upd_at, if_neg (by omega)]; exact h1.1, Nat.lt_succ_of_lt h1.2⟩
  · exact hr.tab


theorem HR.congr {P : Program} {B : BS P} {μ : Img} {h h' : AH} {H : Array Obj} (hr : HR B μ h H) (hn : h'.next = h.next) (hg : ∀ c, h'.get c = h.get c) : HR B μ h' H := by
  refine ⟨fun b x hb => by rw [hn]; exact hr.dom b x hb, fun b x hb => by rw [hn]; rw [hg] at hb; exact hr.blk b x hb, ?_, hr.base, fun cb arr hf => ⟨(hr.frz cb arr hf).1, fun b x y hb => by rw [hg] at hb; exact (hr.frz cb arr hf).2 b x y hb⟩, hr.old, fun b hb => by rw [hn]; exact hr.res b hb, hr.tab⟩
  intro b b' x x' y y' hne hb hb'
  rw [hg] at hb hb'
  exact hr.inj b b' x x' y y' hne hb hb'

theorem HR.kill {P : Program} {B : BS P} {μ : Img} {h : AH} {H : Array Obj} (hr : HR B μ h H) {b : Nat} {x : AB} (hb : h.get b = some x) (hl : x.live = true) : HR B μ (h.put b .dead) H := by
  refine ⟨hr.dom, fun c y hc => ?_, fun c c' y y' z z' hne hc hc' hyl hyl' hz hz' => ?_, hr.base, fun cb arr hf => ⟨(hr.frz cb arr hf).1, fun c y z hc hyl hz => ?_⟩, hr.old, hr.res, hr.tab⟩
  · rw [AH.get_put] at hc
    split at hc
    · rename_i e; cases hc; subst e; exact ⟨(hr.blk _ _ hb).1, trivial⟩
    · exact hr.blk c y hc
  · rw [AH.get_put] at hc hc'
    split at hc
    · cases hc; simp [AB.live] at hyl
    · split at hc'
      · cases hc'; simp [AB.live] at hyl'
      · exact hr.inj c c' y y' z z' hne hc hc' hyl hyl' hz hz'
  · rw [AH.get_put] at hc
    split at hc
    · cases hc; simp [AB.live] at hyl
    · exact (hr.frz cb arr hf).2 c y z hc hyl hz

end Go.AM
