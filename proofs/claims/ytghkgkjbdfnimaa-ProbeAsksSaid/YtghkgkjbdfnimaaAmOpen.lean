/- What comes in, as values: what the row's conditions say of the arguments. Own work. -/
import Derived.Test.YtghkgkjbdfnimaaAmView
import Derived.Deep.Slices
import Derived.Deep.Strs
import Derived.SizedLaws
namespace Go.AM.Sx
open Go Go.AM Go.RowKit Go.ChangeShapes Go.WideShapes Go.Deep
set_option linter.unusedVariables false
set_option linter.unusedSimpArgs false

/-- Values of a type, read as data: their cells, and what is known of them. -/
def Opens {H : Type} (enc : TypeId × Value → H) (P : Program) (W : World) (t : TypeId) (α : Type) (en : α → List AV) (ok : α → Prop) : Prop :=
  ∀ fuel cs d ps, DataW.trod enc P W 0 (fun _ => true) true fuel t cs = some (d, ps) → (∀ n ∈ d.weights P t, n ≤ reachBytes) → ∃ a : α, VRL (Img.all W) (en a) cs ∧ ok a

section
variable {H : Type} {enc : TypeId × Value → H} {P : Program} {W : World}

theorem op_int {t : TypeId} {k : IntKind} (ht : P.underlying t = some (.int k)) : Opens enc P W t Int (fun n => [.int k n]) (fun n => (Lit.int k n).wf = true) := by
  intro fuel cs d ps h hw
  obtain ⟨n, rfl, hx, hwf⟩ := DataW.trod_int ht h
  exact ⟨n, VRL.cons (VR.mk_int _ _) VRL.nil, hwf⟩
theorem op_bool {t : TypeId} (ht : P.underlying t = some .bool) : Opens enc P W t Bool (fun n => [.bool n]) (fun _ => True) := by
  intro fuel cs d ps h hw
  obtain ⟨n, rfl, hx⟩ := DataW.trod_bool ht h
  exact ⟨n, VRL.cons (VR.mk_bool _) VRL.nil, trivial⟩
theorem op_str {t : TypeId} (ht : P.underlying t = some .string) : Opens enc P W t (List UInt8) (fun s => [.str s]) (fun s => s.length < 140737488355327) := by
  intro fuel cs d ps h hw
  obtain ⟨s, rfl, hx, hs⟩ := DataW.trod_string ht h
  cases hx
  refine ⟨s.data.toList, VRL.cons (VR.mk_str _) VRL.nil, ?_⟩
  have := hw s.data.toList.length (by simp [DataW.weights])
  have h2 : reachBytes < 140737488355327 := by decide
  omega

theorem weightsAll_mem {e : TypeId} : ∀ {l : List (DataW H)} {d : DataW H} {n : Nat}, d ∈ l → n ∈ d.weights P e → n ∈ DataW.weightsAll P e l
  | x :: l, d, n, hd, hn => by
    simp only [DataW.weightsAll, List.mem_append]
    rcases List.mem_cons.1 hd with rfl | hd
    · exact .inl hn
    · exact .inr (weightsAll_mem hd hn)

theorem flat_get {α : Type} {en : α → List AV} {sz : Nat} : ∀ {l : List α}, (∀ x ∈ l, (en x).length = sz) → ∀ (i j : Nat), j < sz → (l.flatMap en)[i * sz + j]? = (l[i]?).bind fun x => (en x)[j]?
  | [], _, i, j, hj => by simp
  | x :: l, hl, i, j, hj => by
    have hx := hl x (by simp)
    rw [List.flatMap_cons]
    cases i with
    | zero => rw [Nat.zero_mul, Nat.zero_add, List.getElem?_append_left (by omega)]; simp
    | succ i =>
      rw [List.getElem?_append_right (by rw [hx, Nat.add_mul]; omega), hx, Nat.add_mul]
      rw [show i * sz + 1 * sz + j - sz = i * sz + j by omega]
      rw [flat_get (fun y hy => hl y (by simp [hy])) i j hj]
      simp
theorem flat_len {α : Type} {en : α → List AV} {sz : Nat} : ∀ {l : List α}, (∀ x ∈ l, (en x).length = sz) → (l.flatMap en).length = l.length * sz
  | [], _ => by simp
  | x :: l, hl => by
    rw [List.flatMap_cons, List.length_append, hl x (by simp), flat_len fun y hy => hl y (by simp [hy]), List.length_cons, Nat.add_mul]
    omega

theorem op_slice {t e : TypeId} {α : Type} {en : α → List AV} {ok : α → Prop} {sz : Nat} (ht : P.underlying t = some (.slice e)) (hc : P.cellsOf e = sz) (hz : 0 < sz) (hb : 0 < P.bytesOf e) (he : Opens enc P W e α en ok) :
    Opens enc P W t (List α) (fun l => [.lst false sz l.length (l.flatMap en)]) (fun l => l.length < 140737488355328 ∧ ∀ x ∈ l, ok x) := by
  intro fuel cs d ps h hw
  rcases open_slice ht h with ⟨rfl, hx⟩ | ⟨a, len, cap, m, n, D, Pl, rfl, hba, hl, hm, hmm, hx, hel⟩
  · refine ⟨[], VRL.cons ?_ VRL.nil, by simp, by simp⟩
    simp only [List.length_nil, List.flatMap_nil]
    exact Wk.nils false sz _ _ (by rw [VR])
  · simp only [if_true] at hmm
    subst hmm
    cases hx
    have hone : ∀ i, i < len → ∃ x : α, (∃ cs', W.cells? 0 (a.add (i * sz)) sz = some cs' ∧ VRL (Img.all W) (en x) cs') ∧ ok x := by
      intro i hi
      obtain ⟨cs', h1, h2⟩ := hel i (by omega)
      rw [hc] at h1
      obtain ⟨x, h3, h4⟩ := he n cs' (D i) (Pl i) h2 (fun k hk => hw k (by
        simp only [DataW.weights, ht, List.mem_cons, List.mem_append]
        exact .inr (.inl (weightsAll_mem (List.mem_map.2 ⟨i, by simpa using hi, rfl⟩) hk))))
      exact ⟨x, ⟨cs', h1, h3⟩, h4⟩
    have hlen : len < 140737488355328 := by
      have := hw ((len + (m - len)) * P.bytesOf e) (by simp [DataW.weights, ht])
      have h2 : len + (m - len) ≤ (len + (m - len)) * P.bytesOf e := Nat.le_mul_of_pos_right _ hb
      have h3 : reachBytes < 140737488355327 := by decide
      omega
    -- one list of all
    have hlist : ∃ l : List α, l.length = len ∧ ∀ i x, l[i]? = some x → (∃ cs', W.cells? 0 (a.add (i * sz)) sz = some cs' ∧ VRL (Img.all W) (en x) cs') ∧ ok x := by
      clear hel hw h hm hl hlen
      induction len with
      | zero => exact ⟨[], rfl, fun i x hx => by simp at hx⟩
      | succ len ih =>
        obtain ⟨l, h1, h2⟩ := ih (fun i hi => hone i (by omega))
        obtain ⟨x, hx⟩ := hone len (by omega)
        refine ⟨l ++ [x], by simp [h1], fun i y hy => ?_⟩
        by_cases hi : i < l.length
        · rw [List.getElem?_append_left hi] at hy; exact h2 i y hy
        · rw [List.getElem?_append_right (by omega)] at hy
          have : i = len := by
            have := (List.getElem?_eq_some_iff.1 hy).1
            simp at this; omega
          subst this
          simp [h1] at hy; subst hy; exact hx
    obtain ⟨l, hll, hlx⟩ := hlist
    have hsz : ∀ x ∈ l, (en x).length = sz := by
      intro x hx
      obtain ⟨i, hi, he'⟩ := List.getElem_of_mem hx
      obtain ⟨⟨cs', h1, h2⟩, _⟩ := hlx i x (by rw [List.getElem?_eq_getElem hi, he'])
      rw [h2.length]; exact (World.cells?_some h1).2.1
    refine ⟨l, VRL.cons ?_ VRL.nil, by omega, fun x hx => ?_⟩
    · rw [VR]
      refine ⟨some a, m, by rw [hll], by omega, by simp, flat_len hsz, by simp, fun hpos => ?_⟩
      have hcell : ∀ i j x, l[i]? = some x → j < sz → ∃ v y, (en x)[j]? = some y ∧ W.cell? ((a.add (i * sz)).add j) = some v ∧ VR (Img.all W) y v := by
        intro i j x hx hj
        obtain ⟨⟨cs', h1, h2⟩, _⟩ := hlx i x hx
        obtain ⟨_, h3, h4⟩ := World.cells?_some h1
        have hlj : j < (en x).length := by rw [hsz x (List.mem_of_getElem? hx)]; exact hj
        obtain ⟨v, hv, hvr⟩ := h2.get (List.getElem?_eq_getElem hlj)
        exact ⟨v, _, List.getElem?_eq_getElem hlj, by rw [h4 j hj]; exact hv, hvr⟩
      have hspot : a.spot = none ∧ ∃ arr el f, W.heap[a.block]? = some (.cells arr el f) := by
        have h0 : l[0]? = some l[0] := List.getElem?_eq_getElem hpos
        obtain ⟨v, y, _, h2, _⟩ := hcell 0 0 _ h0 hz
        have : (a.add (0 * sz)).add 0 = a := by simp [Addr.add]
        rw [this] at h2
        unfold World.cell? at h2
        split at h2
        · rename_i c el f hc'
          split at h2
          · cases h2
          · rename_i hs; exact ⟨by simpa using hs, c, el, f, hc'⟩
        · cases h2
      obtain ⟨hs, arr, el, f, harr⟩ := hspot
      have ha : a = ⟨a.block, a.off, none⟩ := by cases a; simp at hs; simp [hs]
      have hat : ∀ i j, (a.add (i * sz)).add j = ⟨a.block, a.off + (i * sz + j), none⟩ := by
        intro i j; rw [add_add, ha, add_at]
      have hcl : ∀ off, W.cell? ⟨a.block, off, none⟩ = arr[off]? := fun off => cell_of harr off
      have hend : a.off + l.length * sz ≤ arr.size := by
        have hlast : l[l.length - 1]? = some l[l.length - 1] := List.getElem?_eq_getElem (by omega)
        obtain ⟨v, y, _, h2, _⟩ := hcell (l.length - 1) (sz - 1) _ hlast (by omega)
        rw [hat, hcl] at h2
        have := (Array.getElem?_eq_some_iff.1 h2).1
        have h3 : (l.length - 1) * sz + sz = l.length * sz := by
          have : l.length = (l.length - 1) + 1 := by omega
          conv => rhs; rw [this, Nat.add_mul, Nat.one_mul]
        omega
      refine ⟨a.block, a.off, arr, by rw [← ha], fzAll_of harr, hend, ?_⟩
      refine VRL.of_get (by rw [flat_len hsz]; simp; omega) fun k y hk => ?_
      have hkl : k < l.length * sz := by rw [← flat_len hsz]; exact (List.getElem?_eq_some_iff.1 hk).1
      have hkd : k / sz * sz + k % sz = k := by rw [Nat.mul_comm]; exact Nat.div_add_mod k sz
      rw [← hkd, flat_get hsz _ _ (Nat.mod_lt _ hz)] at hk
      obtain ⟨x, hx, hy⟩ := Option.bind_eq_some_iff.1 hk
      obtain ⟨v, y', h1, h2, h3⟩ := hcell (k / sz) (k % sz) x hx (Nat.mod_lt _ hz)
      rw [hy] at h1; cases h1
      refine ⟨v, ?_, h3⟩
      rw [hat, hcl, hkd] at h2
      rw [List.getElem?_take, if_pos hkl, List.getElem?_drop]
      simpa using h2
    · obtain ⟨i, hi, he'⟩ := List.getElem_of_mem hx
      exact (hlx i x (by rw [List.getElem?_eq_getElem hi, he'])).2

/-- An argument of one cell. -/
theorem Opens.arg {t : TypeId} {α : Type} {v : α → AV} {ok : α → Prop} (ho : Opens enc P W t α (fun a => [v a]) ok) {x : Value} {d : DataW H} {ps : List MemPlace} (hd : DataW.Trod enc P W 0 (fun _ => true) true t x d ps)
    (hone : x.cells = #[x]) (hw : ∀ n ∈ d.weights P t, n ≤ reachBytes) : ∃ a : α, VR (Img.all W) (v a) x ∧ ok a := by
  obtain ⟨fuel, h⟩ := hd
  rw [hone] at h
  obtain ⟨a, h1, h2⟩ := ho fuel [x] d ps h hw
  obtain ⟨y, rest, he, hy, _⟩ := h1.cons_inv
  cases he
  exact ⟨a, hy, h2⟩
theorem weights_of {ts : List TypeId} {ds : List (DataW H)} (h : (DataW.weightsEach P ts ds).all (· ≤ reachBytes) = true) {j : Nat} {t : TypeId} {d : DataW H} (ht : ts[j]? = some t) (hd : ds[j]? = some d) : ∀ n ∈ d.weights P t, n ≤ reachBytes := by
  intro n hn
  have := List.all_eq_true.1 h n (DataW.weights_mem_each ht hd n hn)
  simpa using this

/-- Fields of a struct, from a place on. -/
def OpensFs {H : Type} (enc : TypeId × Value → H) (P : Program) (W : World) (fs : List Field) (off N : Nat) (α : Type) (en : α → List AV) (ok : α → Prop) : Prop :=
  ∀ (n : Nat) (cs : List Value) (xs : List (DataW H × List MemPlace)), cs.length = N → xs.length = fs.length →
    (∀ (i : Nat) (f : Field), fs[i]? = some f → DataW.trod enc P W 0 (fun _ => true) true n f.type ((cs.drop f.offset).take (P.cellsOf f.type)) = xs[i]?) →
    (∀ k ∈ DataW.weightsEach P (fs.map (·.type)) (xs.map (·.1)), k ≤ reachBytes) → ∃ a : α, VRL (Img.all W) (en a) (cs.drop off) ∧ ok a

theorem ofs_nil {N : Nat} : OpensFs enc P W [] N N Unit (fun _ => []) (fun _ => True) := by
  intro n cs xs hl _ _ _
  refine ⟨(), ?_, trivial⟩
  rw [List.drop_eq_nil_iff.2 (by omega)]
  exact VRL.nil

theorem ofs_cons {f : Field} {fs : List Field} {off N sz : Nat} {α β : Type} {en : α → List AV} {en' : β → List AV} {ok : α → Prop} {ok' : β → Prop} (ho : f.offset = off) (hc : P.cellsOf f.type = sz) (h : Opens enc P W f.type α en ok)
    (hr : OpensFs enc P W fs (off + sz) N β en' ok') : OpensFs enc P W (f :: fs) off N (α × β) (fun p => en p.1 ++ en' p.2) (fun p => ok p.1 ∧ ok' p.2) := by
  intro n cs xs hl hxl hx hw
  cases xs with
  | nil => simp at hxl
  | cons x xs =>
    have h0 := hx 0 f rfl
    simp only [List.getElem?_cons_zero] at h0
    rw [ho, hc] at h0
    simp only [List.map_cons, DataW.weightsEach, List.mem_append] at hw
    obtain ⟨a, ha, hoka⟩ := h n _ x.1 x.2 h0 (fun k hk => hw k (.inl hk))
    obtain ⟨b, hb, hokb⟩ := hr n cs xs hl (by simpa using hxl) (fun i g hg => by simpa using hx (i + 1) g (by simpa using hg)) (fun k hk => hw k (.inr hk))
    refine ⟨(a, b), ?_, hoka, hokb⟩
    have : cs.drop off = (cs.drop off).take sz ++ cs.drop (off + sz) := by
      rw [← List.drop_drop, List.take_append_drop]
    rw [this]
    exact ha.append hb

theorem op_struct {t : TypeId} {fs : Array Field} {N : Nat} {α : Type} {en : α → List AV} {ok : α → Prop} (ht : P.underlying t = some (.struct fs)) (hc : P.cellsOf t = N) (h : OpensFs enc P W fs.toList 0 N α en ok) : Opens enc P W t α en ok := by
  intro fuel cs d ps htr hw
  obtain ⟨xs, n, _, he, hl, hxl, hx⟩ := DataW.trod_struct ht htr
  cases he
  have := h n cs xs (by rw [hl, hc]) (by simpa using hxl) (fun i f hf => hx i f (by simpa using hf)) (fun k hk => hw k (by simp only [DataW.weights, ht]; exact hk))
  simpa using this

/-- An argument that is a struct. -/
theorem Opens.argS {t : TypeId} {α : Type} {en : α → List AV} {ok : α → Prop} (ho : Opens enc P W t α en ok) {cs : Array Value} {d : DataW H} {ps : List MemPlace} (hd : DataW.Trod enc P W 0 (fun _ => true) true t (.agg cs) d ps)
    (hw : ∀ n ∈ d.weights P t, n ≤ reachBytes) : ∃ a : α, VR (Img.all W) (.agg (en a)) (.agg cs) ∧ ok a := by
  obtain ⟨fuel, h⟩ := hd
  obtain ⟨a, h1, h2⟩ := ho fuel cs.toList d ps (by simpa [Value.cells] using h) hw
  exact ⟨a, VR.mk_agg h1, h2⟩

end
theorem flatMap_one {α : Type} (f : α → AV) (l : List α) : l.flatMap (fun x => [f x]) = l.map f := by
  induction l with
  | nil => rfl
  | cons x l ih => simp [ih]
end Go.AM.Sx
