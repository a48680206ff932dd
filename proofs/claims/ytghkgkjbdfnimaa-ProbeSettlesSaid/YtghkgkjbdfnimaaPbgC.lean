/- A link and its stations: what lies where. Own work. -/
import Derived.Test.YtghkgkjbdfnimaaPbgB
namespace Go.AM.X
open Go Go.AM Go.Proofs Go.AM.Sx
set_option maxHeartbeats 1600000
set_option maxRecDepth 100000
set_option linter.unusedSimpArgs false
set_option linter.unusedVariables false
/-- A station. -/
structure Sn where
  rv : AV
  row : List Int
  st : Int
  k : Int
  se : Int
  n : Int
  d : Int
  qs : List As
  hs : List Hi
def Rv (rv : AV) (row : List Int) : Prop := (rv = .nils ∧ row = []) ∨ rv = .lst false 1 row.length (row.map fun n => .int .i64 n)
theorem Rv.cells {rv : AV} {row : List Int} (h : Rv rv row) : rv.cells = some [rv] ∧ rv.one = true := by
  rcases h with ⟨rfl, _⟩ | rfl <;> exact ⟨rfl, rfl⟩
theorem Rv.len {rv : AV} {row : List Int} (h : Rv rv row) (H : AH) : aLen T 22 rv H = some (.int .i64 (row.length : Nat)) := by
  rcases h with ⟨rfl, rfl⟩ | rfl <;> simp [aLen, T22, d22]
def Sn.enc (s : Sn) (av hv : AV) : List AV := [s.rv, .int .i64 s.st, .int .i64 s.k, .int .i64 s.se, .int .i64 s.n, .int .i64 s.d, av, hv]
structure StOk (h : AH) (own : Nat → Nat) (i a : Nat) (av hv : AV) (s : Sn) : Prop where
  lt : a < h.next
  oa : own a = i
  g : h.get a = some (.cells (s.enc av hv) .own)
  rv : Rv s.rv s.row
  ra : RowC 3 h av s.qs.length (fl As.av s.qs)
  rh : RowC 4 h hv s.hs.length (fl Hi.av s.hs)
  ax : ∀ b o l k z x, av = .sl b o l k z x → own b = i ∧ b ≠ a
  hx : ∀ b o l k z x, hv = .sl b o l k z x → own b = i ∧ b ≠ a
  ah : ∀ b o l k z x, av = .sl b o l k z x → offRow hv b
theorem StOk.keep {h h2 : AH} {own own2 : Nat → Nat} {i a : Nat} {av hv : AV} {s : Sn} (hS : StOk h own i a av hv s) (hn : h.next ≤ h2.next) (hk : ∀ c, c < h.next → own c = i → h2.get c = h.get c ∧ own2 c = own c) : StOk h2 own2 i a av hv s := by
  have ka := fun b o l k z x (e : av = .sl b o l k z x) => hk b (hS.ra.lt e) (hS.ax _ _ _ _ _ _ e).1
  have kh := fun b o l k z x (e : hv = .sl b o l k z x) => hk b (hS.rh.lt e) (hS.hx _ _ _ _ _ _ e).1
  have k0 := hk a hS.lt hS.oa
  exact { lt := Nat.lt_of_lt_of_le hS.lt hn, oa := k0.2.trans hS.oa, g := k0.1.trans hS.g, rv := hS.rv, ra := hS.ra.keep hn fun b o l k z x e => (ka _ _ _ _ _ _ e).1, rh := hS.rh.keep hn fun b o l k z x e => (kh _ _ _ _ _ _ e).1, ax := fun b o l k z x e => ⟨(ka _ _ _ _ _ _ e).2.trans (hS.ax _ _ _ _ _ _ e).1, (hS.ax _ _ _ _ _ _ e).2⟩, hx := fun b o l k z x e => ⟨(kh _ _ _ _ _ _ e).2.trans (hS.hx _ _ _ _ _ _ e).1, (hS.hx _ _ _ _ _ _ e).2⟩, ah := hS.ah }
/-- A station in memory. -/
structure Sm where
  a : Nat
  av : AV
  hv : AV
  s : Sn
structure LkOk (h : AH) (own : Nat → Nat) (p : Nat) (lo hi : Int) (sv : AV) (M : List Sm) : Prop where
  lt : p < h.next
  op : own p = 1
  g : ∃ fr : Int, h.get p = some (.cells [.int .i64 lo, .int .i64 hi, .nils, sv, .int .i64 fr] .own)
  r : RowC 1 h sv M.length (M.map fun m => .ptr m.a 0)
  rx : ∀ b o l k z x, sv = .sl b o l k z x → own b = 1 ∧ b ≠ p
  s : ∀ i m, M[i]? = some m → StOk h own (i + 2) m.a m.av m.hv m.s
  nw : ∀ c, h.next ≤ c → own c = 0
def Lk (h : AH) (p : Nat) (lo hi : Int) (S : List Sn) (off : Nat → Prop) : Prop := ∃ own sv M, LkOk h own p lo hi sv M ∧ S = M.map Sm.s ∧ off = fun c => own c = 0
theorem LkOk.grow {h h2 : AH} {own : Nat → Nat} {p : Nat} {lo hi : Int} {sv : AV} {M : List Sm} (hL : LkOk h own p lo hi sv M) (hg : Grow h h2) : LkOk h2 own p lo hi sv M :=
  { lt := Nat.lt_of_lt_of_le hL.lt hg.1, op := hL.op, g := by obtain ⟨fr, g⟩ := hL.g; exact ⟨fr, (hg.2 _ hL.lt).trans g⟩, r := hL.r.grow hg, rx := hL.rx, s := fun i m hm => (hL.s i m hm).keep hg.1 fun c hc _ => ⟨hg.2 c hc, rfl⟩, nw := fun c hc => hL.nw c (Nat.le_trans hg.1 hc) }
theorem Lk.grow {h h2 : AH} {p : Nat} {lo hi : Int} {S : List Sn} {off : Nat → Prop} (hL : Lk h p lo hi S off) (hg : Grow h h2) : Lk h2 p lo hi S off := by
  obtain ⟨own, sv, M, h1, h2, h3⟩ := hL
  exact ⟨own, sv, M, h1.grow hg, h2, h3⟩
theorem Lk.off_ge {h : AH} {p : Nat} {lo hi : Int} {S : List Sn} {off : Nat → Prop} (hL : Lk h p lo hi S off) {c : Nat} (hc : h.next ≤ c) : off c := by
  obtain ⟨own, sv, M, h1, h2, rfl⟩ := hL
  exact h1.nw c hc
/-- The link's own block is written. -/
theorem LkOk.put {h : AH} {own : Nat → Nat} {p : Nat} {lo hi : Int} {sv : AV} {M : List Sm} (hL : LkOk h own p lo hi sv M) (fr : Int) : LkOk (h.put p (.cells [.int .i64 lo, .int .i64 hi, .nils, sv, .int .i64 fr] .own)) own p lo hi sv M ∧ Stf h (h.put p (.cells [.int .i64 lo, .int .i64 hi, .nils, sv, .int .i64 fr] .own)) (fun c => own c = 0) (fun c => own c = 0) := by
  have hk : ∀ c, own c ≠ 1 ∨ c ≠ p → (h.put p (.cells [.int .i64 lo, .int .i64 hi, .nils, sv, .int .i64 fr] .own)).get c = h.get c := fun c hc => by
    rw [AH.get_put, if_neg]
    rintro rfl
    rcases hc with g | g
    · exact g hL.op
    · exact g rfl
  exact ⟨{ lt := hL.lt, op := hL.op, g := ⟨fr, by rw [AH.get_put, if_pos rfl]⟩, r := hL.r.keep (Nat.le_refl _) fun b o l k z x e => hk b (.inr (hL.rx _ _ _ _ _ _ e).2), rx := hL.rx, s := fun i m hm => (hL.s i m hm).keep (Nat.le_refl _) fun c hc ho => ⟨hk c (.inl (by omega)), rfl⟩, nw := hL.nw }, Nat.le_refl _, fun c hc ho => ⟨hk c (.inl (by omega)), ho⟩⟩
/-- A station changes. -/
theorem LkOk.upd {h h2 : AH} {own own2 : Nat → Nat} {p : Nat} {lo hi : Int} {sv : AV} {M : List Sm} (hL : LkOk h own p lo hi sv M) {i : Nat} {m : Sm} (hm : M[i]? = some m) (m2 : Sm) (ha : m2.a = m.a) (hn : h.next ≤ h2.next) (hk : ∀ c, c < h.next → own c ≠ i + 2 → h2.get c = h.get c ∧ own2 c = own c) (hS : StOk h2 own2 (i + 2) m2.a m2.av m2.hv m2.s) (nw : ∀ c, h2.next ≤ c → own2 c = 0) :
    LkOk h2 own2 p lo hi sv (M.set i m2) ∧ Stf h h2 (fun c => own c = 0) (fun c => own2 c = 0) := by
  have hi := (List.getElem?_eq_some_iff.1 hm).1
  have kp := hk p hL.lt (by rw [hL.op]; omega)
  have kr := fun b o l k z x (e : sv = .sl b o l k z x) => hk b (hL.r.lt e) (by rw [(hL.rx _ _ _ _ _ _ e).1]; omega)
  have hmap : (M.set i m2).map (fun m => AV.ptr m.a 0) = M.map fun m => AV.ptr m.a 0 := by
    rw [List.map_set, ha]
    have : AV.ptr m.a 0 = (M.map fun m => AV.ptr m.a 0)[i]'(by rw [List.length_map]; exact hi) := by rw [List.getElem_map, (List.getElem?_eq_some_iff.1 hm).2]
    rw [this]; exact List.set_getElem_self _
  refine ⟨{ lt := Nat.lt_of_lt_of_le hL.lt hn, op := kp.2.trans hL.op, g := by obtain ⟨fr, g⟩ := hL.g; exact ⟨fr, kp.1.trans g⟩, r := by rw [List.length_set, hmap]; exact hL.r.keep hn fun b o l k z x e => (kr _ _ _ _ _ _ e).1, rx := fun b o l k z x e => ⟨(kr _ _ _ _ _ _ e).2.trans (hL.rx _ _ _ _ _ _ e).1, (hL.rx _ _ _ _ _ _ e).2⟩, s := fun j q hq => ?_, nw := nw }, hn, fun c hc ho => ?_⟩
  · by_cases hji : i = j
    · subst hji
      rw [List.getElem?_set_self hi] at hq
      cases hq
      exact hS
    · rw [List.getElem?_set_ne hji] at hq
      exact (hL.s j q hq).keep hn fun c hc ho => hk c hc (by omega)
  · have := hk c hc (by simp only at ho; omega)
    exact ⟨this.1, by simp only at ho ⊢; rw [this.2, ho]⟩
/-- A new row's block is of a station. -/
def newOwn (own : Nat → Nat) (n i : Nat) (v : AV) : Nat → Nat := match v with
  | .sl b _ _ _ _ _ => fun c => if c = b ∧ n ≤ c then i else own c
  | _ => own
theorem newOwn_lt {own : Nat → Nat} {n i c : Nat} (v : AV) (hc : c < n) : newOwn own n i v c = own c := by
  unfold newOwn
  split
  · rw [if_neg]; omega
  · rfl
theorem newOwn_b {own : Nat → Nat} {n i b o l k z : Nat} {x : Bool} {v : AV} (hv : v = .sl b o l k z x) (hb : n ≤ b) : newOwn own n i v b = i := by
  subst hv
  simp only [newOwn]
  rw [if_pos ⟨trivial, hb⟩]
theorem newOwn_ge {own : Nat → Nat} {n i c N : Nat} {v : AV} (h0 : ∀ c, n ≤ c → own c = 0) (hN : n ≤ N) (hv : ∀ b o l k z x, v = .sl b o l k z x → b < N) (hc : N ≤ c) : newOwn own n i v c = 0 := by
  unfold newOwn
  split
  · rename_i b o l k z x
    have := hv _ _ _ _ _ _ rfl
    rw [if_neg (by omega)]
    exact h0 c (by omega)
  · exact h0 c (by omega)
variable {h h4 : AH} {own : Nat → Nat} {p i : Nat} {lo hi : Int} {sv : AV} {M : List Sm} {m : Sm}
theorem StOk.ptr (hL : LkOk h own p lo hi sv M) (hm : M[i]? = some m) : h.get m.a = some (.cells [m.s.rv, .int .i64 m.s.st, .int .i64 m.s.k, .int .i64 m.s.se, .int .i64 m.s.n, .int .i64 m.s.d, m.av, m.hv] .own) := (hL.s i m hm).g
/-- A station's numbers change. -/
theorem LkOk.nums (hL : LkOk h own p lo hi sv M) (hm : M[i]? = some m) (st k se n d : Int) :
    LkOk (h.put m.a (.cells [m.s.rv, .int .i64 st, .int .i64 k, .int .i64 se, .int .i64 n, .int .i64 d, m.av, m.hv] .own)) own p lo hi sv (M.set i { m with s := { m.s with st := st, k := k, se := se, n := n, d := d } }) ∧
      Stf h (h.put m.a (.cells [m.s.rv, .int .i64 st, .int .i64 k, .int .i64 se, .int .i64 n, .int .i64 d, m.av, m.hv] .own)) (fun c => own c = 0) (fun c => own c = 0) := by
  have hS := hL.s i m hm
  have hk : ∀ c, c ≠ m.a → (h.put m.a (.cells [m.s.rv, .int .i64 st, .int .i64 k, .int .i64 se, .int .i64 n, .int .i64 d, m.av, m.hv] .own)).get c = h.get c := fun c hc => by rw [AH.get_put, if_neg hc]
  refine hL.upd (own2 := own) hm _ rfl (Nat.le_refl _) (fun c hc ho => ⟨hk c (by rintro rfl; exact ho hS.oa), rfl⟩) ?_ hL.nw
  exact { lt := hS.lt, oa := hS.oa, g := by rw [AH.get_put, if_pos rfl]; rfl, rv := hS.rv, ra := hS.ra.keep (Nat.le_refl _) fun b o l k z x e => hk b (hS.ax _ _ _ _ _ _ e).2, rh := hS.rh.keep (Nat.le_refl _) fun b o l k z x e => hk b (hS.hx _ _ _ _ _ _ e).2, ax := hS.ax, hx := hS.hx, ah := hS.ah }
/-- A station's hints are another row. -/
theorem LkOk.setH (hL : LkOk h own p lo hi sv M) (hm : M[i]? = some m) {hv2 : AV} {hs2 : List Hi} (hr : RowC 4 h4 hv2 hs2.length (fl Hi.av hs2)) (hn : h.next ≤ h4.next) (hk : ∀ c, c < h.next → offRow m.hv c → h4.get c = h.get c)
    (hsh : ∀ b o l k z x, hv2 = .sl b o l k z x → h.next ≤ b ∨ ∃ o l k z x, m.hv = .sl b o l k z x) :
    h4.get m.a = some (.cells [m.s.rv, .int .i64 m.s.st, .int .i64 m.s.k, .int .i64 m.s.se, .int .i64 m.s.n, .int .i64 m.s.d, m.av, m.hv] .own) ∧
    LkOk (h4.put m.a (.cells [m.s.rv, .int .i64 m.s.st, .int .i64 m.s.k, .int .i64 m.s.se, .int .i64 m.s.n, .int .i64 m.s.d, m.av, hv2] .own)) (newOwn own h.next (i + 2) hv2) p lo hi sv (M.set i { m with hv := hv2, s := { m.s with hs := hs2 } }) ∧
      Stf h (h4.put m.a (.cells [m.s.rv, .int .i64 m.s.st, .int .i64 m.s.k, .int .i64 m.s.se, .int .i64 m.s.n, .int .i64 m.s.d, m.av, hv2] .own)) (fun c => own c = 0) (fun c => newOwn own h.next (i + 2) hv2 c = 0) := by
  have hS := hL.s i m hm
  have hlt := hS.lt
  have ho : offRow m.hv m.a := fun b o l k z x e g => (hS.hx _ _ _ _ _ _ e).2 g.symm
  have hput : ∀ c, c ≠ m.a → (h4.put m.a (.cells [m.s.rv, .int .i64 m.s.st, .int .i64 m.s.k, .int .i64 m.s.se, .int .i64 m.s.n, .int .i64 m.s.d, m.av, hv2] .own)).get c = h4.get c := fun c hc => by rw [AH.get_put, if_neg hc]
  have hb2 : ∀ b o l k z x, hv2 = .sl b o l k z x → b ≠ m.a := fun b o l k z x e g => by
    rcases hsh _ _ _ _ _ _ e with q | ⟨o, l, k, z, x, q⟩
    · omega
    · exact (hS.hx _ _ _ _ _ _ q).2 g
  refine ⟨(hk _ hlt ho).trans hS.g, ?_⟩
  refine hL.upd hm _ rfl hn (fun c hc hoc => ⟨?_, newOwn_lt _ hc⟩) ?_ fun c hc => newOwn_ge hL.nw hn (fun b o l k z x e => hr.lt e) hc
  · rw [hput c (by rintro rfl; exact hoc hS.oa)]
    exact hk c hc fun b o l k z x e g => hoc (by rw [g]; exact (hS.hx _ _ _ _ _ _ e).1)
  · refine { lt := by show m.a < h4.next; omega, oa := (newOwn_lt _ hlt).trans hS.oa, g := by rw [AH.get_put, if_pos rfl]; rfl, rv := hS.rv, ra := hS.ra.keep hn fun b o l k z x e => ?_, rh := hr.keep (show h4.next ≤ (h4.put m.a _).next from Nat.le_refl _) fun b o l k z x e => hput b (hb2 _ _ _ _ _ _ e), ax := fun b o l k z x e => ⟨(newOwn_lt _ (hS.ra.lt e)).trans (hS.ax _ _ _ _ _ _ e).1, (hS.ax _ _ _ _ _ _ e).2⟩, hx := fun b o l k z x e => ⟨?_, hb2 _ _ _ _ _ _ e⟩, ah := fun b o l k z x e b' o' l' k' z' x' e' => ?_ }
    · rw [hput b (hS.ax _ _ _ _ _ _ e).2]
      exact hk b (hS.ra.lt e) (hS.ah _ _ _ _ _ _ e)
    · rcases hsh _ _ _ _ _ _ e with q | ⟨o, l, k, z, x, q⟩
      · exact newOwn_b e q
      · exact (newOwn_lt _ (hS.rh.lt q)).trans (hS.hx _ _ _ _ _ _ q).1
    · rcases hsh _ _ _ _ _ _ e' with q | ⟨_, _, _, _, _, q⟩
      · have := hS.ra.lt e
        omega
      · exact hS.ah _ _ _ _ _ _ e _ _ _ _ _ _ q
/-- What a station asks for is another row. -/
theorem LkOk.setA (hL : LkOk h own p lo hi sv M) (hm : M[i]? = some m) {av2 : AV} {as2 : List As} (hr : RowC 3 h4 av2 as2.length (fl As.av as2)) (hn : h.next ≤ h4.next) (hk : ∀ c, c < h.next → offRow m.av c → h4.get c = h.get c)
    (hsh : ∀ b o l k z x, av2 = .sl b o l k z x → h.next ≤ b ∨ ∃ o l k z x, m.av = .sl b o l k z x) :
    h4.get m.a = some (.cells [m.s.rv, .int .i64 m.s.st, .int .i64 m.s.k, .int .i64 m.s.se, .int .i64 m.s.n, .int .i64 m.s.d, m.av, m.hv] .own) ∧
    LkOk (h4.put m.a (.cells [m.s.rv, .int .i64 m.s.st, .int .i64 m.s.k, .int .i64 m.s.se, .int .i64 m.s.n, .int .i64 m.s.d, av2, m.hv] .own)) (newOwn own h.next (i + 2) av2) p lo hi sv (M.set i { m with av := av2, s := { m.s with qs := as2 } }) ∧
      Stf h (h4.put m.a (.cells [m.s.rv, .int .i64 m.s.st, .int .i64 m.s.k, .int .i64 m.s.se, .int .i64 m.s.n, .int .i64 m.s.d, av2, m.hv] .own)) (fun c => own c = 0) (fun c => newOwn own h.next (i + 2) av2 c = 0) := by
  have hS := hL.s i m hm
  have hlt := hS.lt
  have ho : offRow m.av m.a := fun b o l k z x e g => (hS.ax _ _ _ _ _ _ e).2 g.symm
  have hput : ∀ c, c ≠ m.a → (h4.put m.a (.cells [m.s.rv, .int .i64 m.s.st, .int .i64 m.s.k, .int .i64 m.s.se, .int .i64 m.s.n, .int .i64 m.s.d, av2, m.hv] .own)).get c = h4.get c := fun c hc => by rw [AH.get_put, if_neg hc]
  have hb2 : ∀ b o l k z x, av2 = .sl b o l k z x → b ≠ m.a := fun b o l k z x e g => by
    rcases hsh _ _ _ _ _ _ e with q | ⟨o, l, k, z, x, q⟩
    · omega
    · exact (hS.ax _ _ _ _ _ _ q).2 g
  refine ⟨(hk _ hlt ho).trans hS.g, ?_⟩
  refine hL.upd hm _ rfl hn (fun c hc hoc => ⟨?_, newOwn_lt _ hc⟩) ?_ fun c hc => newOwn_ge hL.nw hn (fun b o l k z x e => hr.lt e) hc
  · rw [hput c (by rintro rfl; exact hoc hS.oa)]
    exact hk c hc fun b o l k z x e g => hoc (by rw [g]; exact (hS.ax _ _ _ _ _ _ e).1)
  · refine { lt := by show m.a < h4.next; omega, oa := (newOwn_lt _ hlt).trans hS.oa, g := by rw [AH.get_put, if_pos rfl]; rfl, rv := hS.rv, rh := hS.rh.keep hn fun b o l k z x e => ?_, ra := hr.keep (show h4.next ≤ (h4.put m.a _).next from Nat.le_refl _) fun b o l k z x e => hput b (hb2 _ _ _ _ _ _ e), hx := fun b o l k z x e => ⟨(newOwn_lt _ (hS.rh.lt e)).trans (hS.hx _ _ _ _ _ _ e).1, (hS.hx _ _ _ _ _ _ e).2⟩, ax := fun b o l k z x e => ⟨?_, hb2 _ _ _ _ _ _ e⟩, ah := fun b o l k z x e b' o' l' k' z' x' e' => ?_ }
    · rw [hput b (hS.hx _ _ _ _ _ _ e).2]
      exact hk b (hS.rh.lt e) fun b' o' l' k' z' x' e' g => hS.ah _ _ _ _ _ _ e' _ _ _ _ _ _ e g.symm
    · rcases hsh _ _ _ _ _ _ e with q | ⟨o, l, k, z, x, q⟩
      · exact newOwn_b e q
      · exact (newOwn_lt _ (hS.ra.lt q)).trans (hS.ax _ _ _ _ _ _ q).1
    · intro g
      rcases hsh _ _ _ _ _ _ e with q | ⟨_, _, _, _, _, q⟩
      · have := hS.rh.lt e'
        omega
      · exact hS.ah _ _ _ _ _ _ q _ _ _ _ _ _ e' g
end Go.AM.X
namespace Go.AM.X
open Go Go.AM Go.Proofs Go.AM.Sx
set_option maxHeartbeats 3200000
set_option maxRecDepth 100000
set_option linter.unusedVariables false
theorem F21 : F 21 = some { body := (Try.f21.body.getD .skip), results := Try.f21.results.toList, rf := false } := by kernel_rfl
theorem R21 : regsOk T (Try.f21.body.getD .skip) = true := by kernel_rfl
theorem F23 : F 23 = some { body := (Try.f23.body.getD .skip), results := Try.f23.results.toList, rf := false } := by kernel_rfl
theorem R23 : regsOk T (Try.f23.body.getD .skip) = true := by kernel_rfl
theorem F24 : F 24 = some { body := (Try.f24.body.getD .skip), results := Try.f24.results.toList, rf := false } := by kernel_rfl
theorem R24 : regsOk T (Try.f24.body.getD .skip) = true := by kernel_rfl
theorem F9 : F 9 = some { body := (Try.f9.body.getD .skip), results := Try.f9.results.toList, rf := false } := by kernel_rfl
theorem R9 : regsOk T (Try.f9.body.getD .skip) = true := by kernel_rfl
theorem F14 : F 14 = some { body := (Try.f14.body.getD .skip), results := Try.f14.results.toList, rf := false } := by kernel_rfl
theorem R14 : regsOk T (Try.f14.body.getD .skip) = true := by kernel_rfl
theorem F17 : F 17 = some { body := (Try.f17.body.getD .skip), results := Try.f17.results.toList, rf := false } := by kernel_rfl
theorem R17 : regsOk T (Try.f17.body.getD .skip) = true := by kernel_rfl
theorem F39 : F 39 = some { body := (Try.f39.body.getD .skip), results := Try.f39.results.toList, rf := false } := by kernel_rfl
theorem R39 : regsOk T (Try.f39.body.getD .skip) = true := by kernel_rfl
theorem F52 : F 52 = some { body := (Try.f52.body.getD .skip), results := Try.f52.results.toList, rf := false } := by kernel_rfl
theorem R52 : regsOk T (Try.f52.body.getD .skip) = true := by kernel_rfl
theorem F12 : F 12 = some { body := (Try.f12.body.getD .skip), results := Try.f12.results.toList, rf := false } := by kernel_rfl
theorem R12 : regsOk T (Try.f12.body.getD .skip) = true := by kernel_rfl
theorem setF_setF {α : Type} : ∀ (k : Nat) (t : PT α) (n : Nat) (x y : α), PT.setF k (PT.setF k t n x) n y = PT.setF k t n y
  | 0, _, _, _, _ => rfl
  | k + 1, .leaf, n, x, y => by
    cases h0 : Nat.beq n 0 <;> cases h1 : Nat.beq (n % 2) 1 <;> simp only [PT.setF, h0, h1, setF_setF k]
  | k + 1, .node v l r, n, x, y => by
    cases h0 : Nat.beq n 0 <;> cases h1 : Nat.beq (n % 2) 1 <;> simp only [PT.setF, h0, h1, setF_setF k]
theorem put_put (h : AH) (b : Nat) (x y : AB) : (h.put b x).put b y = h.put b y := by
  simp only [AH.put, PT.set, setF_setF]
theorem loadM {h : AH} {sv : AV} {M : List Sm} {i : Nat} {m : Sm} (hr : RowC 1 h sv M.length (M.map fun m => .ptr m.a 0)) (hm : M[i]? = some m) :
    ∃ b cs k, aIndexAddr T 56 sv (.int .i64 (i : Nat)) = some (.ptr b i) ∧ h.get b = some (.cells cs k) ∧ cs[i]? = some (.ptr m.a 0) := by
  have hi := (List.getElem?_eq_some_iff.1 hm).1
  obtain ⟨b, rest, _, h1, h2, h3⟩ := hr.at_ T56 d56 T59 s59 hi
  rw [Nat.mul_one] at h1
  refine ⟨b, _, _, h1, h2, ?_⟩
  rw [List.getElem?_append_left (by rw [List.length_map]; exact hi), List.getElem?_map, hm]; rfl
def bad (n : Nat) (i : Int) : Int := if i < 0 ∨ (n : Int) ≤ i then 2 else 0
theorem run21 {I : Nat → Option (List AV → AH → Rs)} (h21 : I 21 = none) (m p : Nat) (lo hi fr : Int) (sv : AV) (h : AH) (hp : h.get p = some (.cells [.int .i64 lo, .int .i64 hi, .nils, sv, .int .i64 fr] .own)) (hl : ¬ lo = 0) : call F I T (m + 1) 21 [.ptr p 0] h = some (.bool false, h) := by
  rw [call_F (by decide) h21 F21 rfl R21]; simp only [Try.f21, Option.getD]
  simp +contextual (maxSteps := 3000000) only [↓code_seq, ↓code_region, ↓code_ret, ↓ops_nil, ↓ops_cons, run_none, run_someF, ↓run0_v, ↓seqK_normal, ↓retK_ret, put_same, put_ne, env0_at, ev_tmp, ev_const, oc_int, oc_bool, oc_nilp, o_move, o_assign, o_pick, o_bin, o_load, o_nilCheck, o_fieldAddr, g_none, g_some, pick_bool, bin_eql, nil_ptr, resultsOf, oneOrAll, Option.bind_some, Option.map_some, Option.getD_some, ↓reduceIte, Nat.reduceEqDiff, not_false_eq_true, Nat.reduceAdd, reduceCtorEq, List.getElem?_cons_zero, List.getElem?_cons_succ, List.getElem?_toArray, Bool.false_eq_true, ne_eq, fa_ptr T58 p58_0 (by decide), load_p1 T3 a3, loadc_def, pn_eql T25 d25, hp, hl]
  rfl
theorem run23 {I : Nat → Option (List AV → AH → Rs)} (h21 : I 21 = none) (h23 : I 23 = none) (m p : Nat) (i lo hi : Int) (own : Nat → Nat) (sv : AV) (M : List Sm) (h : AH) (hL : LkOk h own p lo hi sv M) (hl : ¬ lo = 0) : call F I T (m + 2) 23 [.ptr p 0, .int .i64 i] h = some (.int .i64 (bad M.length i), h) := by
  obtain ⟨fr, g⟩ := hL.g
  have k1 := run21 h21 m p lo hi fr sv h g hl
  have hlen : ∀ h, aLen T 56 sv h = some (.int .i64 (M.length : Nat)) := fun h => hL.r.len T56 d56
  unfold bad
  rw [call_F (by decide) h23 F23 rfl R23]; simp only [Try.f23, Option.getD]
  by_cases c1 : i < 0
  · simp +contextual (maxSteps := 3000000) only [↓code_seq, ↓code_region, ↓code_cond, ↓code_block, ↓code_ret, aCond_bool, ↓ops_nil, ↓ops_cons, run_none, run_someF, ↓run0_v, ↓run0_r, ↓seqK_normal, ↓seqK_ret, ↓blkK_ret, ↓retK_ret, put_same, put_ne, env0_at, ev_tmp, ev_const, ev_func, oc_int, oc_bool, o_move, o_assign, o_pick, o_bin, o_call, o_len, o_load, o_nilCheck, o_fieldAddr, g_none, g_some, pick_bool, bin_lss, resultsOf, oneOrAll, Option.bind_some, Option.map_some, Option.getD_some, ↓reduceIte, Nat.reduceEqDiff, not_false_eq_true, reduceCtorEq, List.getElem?_cons_zero, List.getElem?_cons_succ, List.getElem?_toArray, Bool.false_eq_true, List.map_cons, List.map_nil, List.append_nil, List.nil_append, ne_eq, k1, eq_true c1, true_or, decide_true, callV_fn (g := 21) (by decide)]
  · by_cases c2 : (M.length : Int) ≤ i
    · simp +contextual (maxSteps := 3000000) only [↓code_seq, ↓code_region, ↓code_cond, ↓code_block, ↓code_ret, aCond_bool, ↓ops_nil, ↓ops_cons, run_none, run_someF, ↓run0_v, ↓run0_r, ↓seqK_normal, ↓seqK_ret, ↓blkK_ret, ↓retK_ret, put_same, put_ne, env0_at, ev_tmp, ev_const, ev_func, oc_int, oc_bool, o_move, o_assign, o_pick, o_bin, o_call, o_len, o_load, o_nilCheck, o_fieldAddr, g_none, g_some, pick_bool, bin_lss, bin_geq, nil_ptr, resultsOf, oneOrAll, Option.bind_some, Option.map_some, Option.getD_some, ↓reduceIte, Nat.reduceEqDiff, not_false_eq_true, Nat.reduceAdd, reduceCtorEq, List.getElem?_cons_zero, List.getElem?_cons_succ, List.getElem?_toArray, Bool.false_eq_true, List.map_cons, List.map_nil, List.append_nil, List.nil_append, ge_iff_le, ne_eq, fa_ptr T58 p58_3 (by decide), load_p1 T56 a56, loadc_def, k1, g, hlen, c1, eq_true c2, or_true, decide_true, decide_false, callV_fn (g := 21) (by decide)]
    · simp +contextual (maxSteps := 3000000) only [↓code_skip, ↓code_seq, ↓code_region, ↓code_cond, ↓code_block, ↓code_ret, aCond_bool, ↓ops_nil, ↓ops_cons, run_none, run_someF, ↓run0_v, ↓run0_r, ↓seqK_normal, ↓blkK_normal, ↓retK_ret, put_same, put_ne, env0_at, ev_tmp, ev_const, ev_func, oc_int, oc_bool, o_move, o_assign, o_pick, o_bin, o_call, o_len, o_load, o_nilCheck, o_fieldAddr, g_none, g_some, pick_bool, bin_lss, bin_geq, nil_ptr, resultsOf, oneOrAll, Option.bind_some, Option.map_some, Option.getD_some, ↓reduceIte, Nat.reduceEqDiff, not_false_eq_true, Nat.reduceAdd, reduceCtorEq, List.getElem?_cons_zero, List.getElem?_cons_succ, List.getElem?_toArray, Bool.false_eq_true, List.map_cons, List.map_nil, List.append_nil, List.nil_append, ge_iff_le, ne_eq, fa_ptr T58 p58_3 (by decide), load_p1 T56 a56, loadc_def, k1, g, hlen, c1, c2, or_self, decide_false, callV_fn (g := 21) (by decide)]
theorem run52 {I : Nat → Option (List AV → AH → Rs)} (h71 : I 71 = none) (h60 : I 60 = none) (h65 : I 65 = none) (h52 : I 52 = none) (m : Nat) (x : Int) (h : AH) : call F I T (m + 2) 52 [.nils, .int .i64 x] h = some (.tup [.int .i64 0, .bool false], h) := by
  have hlen : ∀ h, aLen T 22 .nils h = some (.int .i64 0) := fun h => by simp [aLen, T22, d22]
  rw [call_F (by decide) h52 F52 rfl R52]; simp only [Try.f52, Option.getD]
  simp +contextual (maxSteps := 3000000) only [↓code_seq, ↓code_region, ↓code_block, ↓code_loop, ↓ops_nil, ↓ops_cons, run_none, ↓run0_v, ↓seqK_normal, put_same, put_ne, env0_at, ev_tmp, ev_const, oc_int, oc_bool, o_move, o_assign, o_len, g_none, Option.getD_some, Nat.reduceEqDiff, not_false_eq_true, reduceCtorEq, List.getElem?_cons_zero, ne_eq, len_nils T22 d22]
  refine iterL_wp (Q := fun r => r = some (.tup [.int .i64 0, .bool false], h)) (N := 0) (Inv := fun k e h' => ∃ i, k + i = 0 ∧ h' = h ∧ e 0 = .nils ∧ e 1 = .int .i64 x ∧ e 6 = .int .i64 0 ∧ e 7 = .int .i64 0 ∧ e 8 = .int .i64 0) ?_ ?_ (by omega)
  · rintro k e h' K' ⟨i, hk, hh, e0, e1, e6, e7, e8⟩ hnext hexit
    subst hh
    simp +contextual (maxSteps := 3000000) only [↓code_seq, ↓code_region, ↓code_cond, ↓code_exit, aCond_bool, ↓ops_nil, ↓ops_cons, run_none, ↓run0_v, ↓seqK_normal, ↓seqK_exit, put_same, put_ne, ev_tmp, o_move, o_bin, g_none, bin_lss, decide_eq_true_eq, ↓reduceIte, Nat.reduceEqDiff, not_false_eq_true, ne_eq, e7, e8, Int.lt_irrefl]
    refine hexit _ _ _ (by simp) ?_
    simp +contextual (maxSteps := 3000000) only [↓code_seq, ↓code_region, ↓code_ret, ↓ops_nil, ↓ops_cons, run_none, run_someT, run_tup, ↓run0_v, ↓seqK_normal, ↓blkK_exit, ↓retK_ret, put_same, put_ne, ev_tmp, ev_const, ev_func, oc_bool, o_move, o_assign, o_pick, o_bin, o_call, o_load, o_indexAddr, g_none, g_some, pick_bool, bin_lss, resultsOf, oneOrAll, Option.bind_some, Option.map_some, decide_eq_true_eq, ↓reduceIte, Nat.reduceEqDiff, not_false_eq_true, reduceCtorEq, List.getElem?_cons_zero, List.getElem?_cons_succ, List.getElem?_toArray, List.map_cons, List.map_nil, List.append_nil, List.nil_append, ne_eq, callV_fn (g := 65) (by decide), e0, e1, e6, e7, Int.lt_irrefl]
  · refine ⟨0, by omega, ?_, ?_, ?_, ?_, ?_, ?_⟩
    · rfl
    · simp only [put_ne, env0_at, Option.getD_some, not_false_eq_true, reduceCtorEq, List.getElem?_cons_zero, ne_eq]
    · simp only [put_ne, env0_at, Option.getD_some, Nat.reduceEqDiff, not_false_eq_true, List.getElem?_cons_zero, List.getElem?_cons_succ, ne_eq]
    · simp only [put_same, put_ne, Nat.reduceEqDiff, not_false_eq_true, ne_eq]
    · simp only [put_same, put_ne, Nat.reduceEqDiff, not_false_eq_true, ne_eq]
    · simp only [put_same]
theorem run39 {I : Nat → Option (List AV → AH → Rs)} (h71 : I 71 = none) (h60 : I 60 = none) (h65 : I 65 = none) (h52 : I 52 = none) (h39 : I 39 = none) (m p : Nat) (lo hi : Int) (own : Nat → Nat) (sv : AV) (M : List Sm) (h : AH) (hL : LkOk h own p lo hi sv M) :
    ∃ h2, call F I T (m + 3) 39 [.ptr p 0] h = some (.bool true, h2) ∧ LkOk h2 own p lo hi sv M ∧ Stf h h2 (fun c => own c = 0) (fun c => own c = 0) ∧ h2.next = h.next ∧ ∀ c, c ≠ p → h2.get c = h.get c := by
  obtain ⟨fr, g⟩ := hL.g
  have k1 := run52 h71 h60 h65 h52 m fr h
  obtain ⟨t1, t2⟩ := hL.put (IntKind.i64.wrap (fr + 1))
  refine ⟨_, ?_, t1, t2, rfl, fun c hc => by rw [AH.get_put, if_neg hc]⟩
  rw [call_F (by decide) h39 F39 rfl R39]; simp only [Try.f39, Option.getD]
  simp +contextual (maxSteps := 3000000) only [↓code_seq, ↓code_region, ↓code_ret, ↓ops_nil, ↓ops_cons, run_none, ↓run0_v, ↓run0_r, ↓seqK_normal, ↓retK_ret, put_same, put_ne, put_none, env0_at, ev_tmp, ev_const, ev_func, oc_int, oc_bool, o_move, o_assign, o_bin, o_call, o_load, o_store, o_nilCheck, o_un, o_fieldAddr, o_extract, g_none, bin_add, un_not, extract_tup, nil_ptr, resultsOf, oneOrAll, Option.map_some, Option.getD_some, Nat.reduceEqDiff, not_false_eq_true, Nat.reduceAdd, reduceCtorEq, List.getElem?_cons_zero, List.getElem?_cons_succ, List.map_cons, List.map_nil, List.append_nil, List.nil_append, Bool.not_false, ne_eq, fa_ptr T58 p58_2 (by decide), load_p1 T22 a22, loadc_def, fa_ptr T58 p58_4 (by decide), load_p1 T3 a3, st_int T3 s3, stm_own, g, k1, callV_fn (g := 52) (by decide)]
  rfl
def updI (S : List Sn) (i : Nat) (f : Sn → Sn) : List Sn := match S[i]? with
  | some s => S.set i (f s)
  | none => S
theorem map_set_s (M : List Sm) (i : Nat) (m : Sm) : (M.set i m).map Sm.s = (M.map Sm.s).set i m.s := List.map_set ..
theorem updI_map {M : List Sm} {i : Nat} {m : Sm} (hm : M[i]? = some m) (f : Sn → Sn) (m2 : Sm) (h2 : m2.s = f m.s) : updI (M.map Sm.s) i f = (M.set i m2).map Sm.s := by
  unfold updI
  rw [List.getElem?_map, hm, map_set_s, h2]
  rfl
def leaveS (s : Sn) : Sn := { s with st := 0, k := 0, se := 0, qs := [], hs := [] }
def probeF (s : Sn) : Sn := if s.st = 1 then s else { leaveS s with st := 1 }
variable {h : AH} {own : Nat → Nat} {p i : Nat} {lo hi : Int} {sv : AV} {M : List Sm} {m : Sm} in
theorem LkOk.clear (hL : LkOk h own p lo hi sv M) (hm : M[i]? = some m) (st : Int) :
    LkOk (h.put m.a (.cells [m.s.rv, .int .i64 st, .int .i64 0, .int .i64 0, .int .i64 m.s.n, .int .i64 m.s.d, .nils, .nils] .own)) own p lo hi sv (M.set i ⟨m.a, .nils, .nils, { leaveS m.s with st := st }⟩) ∧
      Stf h (h.put m.a (.cells [m.s.rv, .int .i64 st, .int .i64 0, .int .i64 0, .int .i64 m.s.n, .int .i64 m.s.d, .nils, .nils] .own)) (fun c => own c = 0) (fun c => own c = 0) := by
  have hS := hL.s i m hm
  have hk : ∀ c, c ≠ m.a → (h.put m.a (.cells [m.s.rv, .int .i64 st, .int .i64 0, .int .i64 0, .int .i64 m.s.n, .int .i64 m.s.d, .nils, .nils] .own)).get c = h.get c := fun c hc => by rw [AH.get_put, if_neg hc]
  refine hL.upd (own2 := own) hm _ rfl (Nat.le_refl _) (fun c hc ho => ⟨hk c (by rintro rfl; exact ho hS.oa), rfl⟩) ?_ hL.nw
  exact { lt := hS.lt, oa := hS.oa, g := by rw [AH.get_put, if_pos rfl]; rfl, rv := hS.rv, ra := RowC.nil _ _, rh := RowC.nil _ _, ax := fun _ _ _ _ _ _ e => (by cases e), hx := fun _ _ _ _ _ _ e => (by cases e), ah := fun _ _ _ _ _ _ e => (by cases e) }
theorem st8_1 {h : AH} {q : Nat} {a0 a1 a2 a3 a4 a5 a6 a7 v : AV} : stm (some (.cells [a0, a1, a2, a3, a4, a5, a6, a7] .own)) h q 1 v = some (h.put q (.cells [a0, v, a2, a3, a4, a5, a6, a7] .own)) := (rfl)
theorem st8_2 {h : AH} {q : Nat} {a0 a1 a2 a3 a4 a5 a6 a7 v : AV} : stm (some (.cells [a0, a1, a2, a3, a4, a5, a6, a7] .own)) h q 2 v = some (h.put q (.cells [a0, a1, v, a3, a4, a5, a6, a7] .own)) := (rfl)
theorem st8_3 {h : AH} {q : Nat} {a0 a1 a2 a3 a4 a5 a6 a7 v : AV} : stm (some (.cells [a0, a1, a2, a3, a4, a5, a6, a7] .own)) h q 3 v = some (h.put q (.cells [a0, a1, a2, v, a4, a5, a6, a7] .own)) := (rfl)
theorem st8_6 {h : AH} {q : Nat} {a0 a1 a2 a3 a4 a5 a6 a7 v : AV} : stm (some (.cells [a0, a1, a2, a3, a4, a5, a6, a7] .own)) h q 6 v = some (h.put q (.cells [a0, a1, a2, a3, a4, a5, v, a7] .own)) := (rfl)
theorem st8_7 {h : AH} {q : Nat} {a0 a1 a2 a3 a4 a5 a6 a7 v : AV} : stm (some (.cells [a0, a1, a2, a3, a4, a5, a6, a7] .own)) h q 7 v = some (h.put q (.cells [a0, a1, a2, a3, a4, a5, a6, v] .own)) := (rfl)
theorem st2_0 {h : AH} {q : Nat} {a0 a1 x y : AV} (hx : x.one = true) (hy : y.one = true) (hg : h.get q = some (.cells [a0, a1] .own)) : aStore T 35 (.ptr q 0) (.agg [x, y]) h = some (h.put q (.cells [x, y] .own)) := by
  rw [store_n (vs := [x, y]) T35 rfl (by rw [s35]; rfl) (by simp [hx, hy]) hg (by simp)]; rfl
theorem run24 {I : Nat → Option (List AV → AH → Rs)} (h24 : I 24 = none) (m a : Nat) (rv av hv : AV) (st k se n d : Int) (h : AH) (hg : h.get a = some (.cells [rv, .int .i64 st, .int .i64 k, .int .i64 se, .int .i64 n, .int .i64 d, av, hv] .own)) :
    call F I T (m + 1) 24 [.ptr a 0] h = some (.tup [], h.put a (.cells [rv, .int .i64 0, .int .i64 0, .int .i64 0, .int .i64 n, .int .i64 d, .nils, .nils] .own)) := by
  rw [call_F (by decide) h24 F24 rfl R24]; simp only [Try.f24, Option.getD]
  simp +contextual (maxSteps := 3000000) only [↓code_seq, ↓code_region, ↓ops_nil, ↓ops_cons, run_none, ↓run0_v, ↓run0_h, ↓seqK_normal, ↓retK_normal, put_same, put_ne, put_none, env0_at, ev_tmp, ev_const, oc_int, oc_nils, o_move, o_store, o_nilCheck, o_fieldAddr, g_none, nil_ptr, resultsOf, oneOrAll, Option.map_some, Option.getD_some, ↓reduceIte, Nat.reduceEqDiff, not_false_eq_true, Nat.reduceAdd, reduceCtorEq, List.getElem?_cons_zero, AH.get_put, ne_eq, fa_ptr T64 p64_1 (by decide), st_int T3 s3, run0_h, fa_ptr T64 p64_2 (by decide), fa_ptr T64 p64_3 (by decide), fa_ptr T64 p64_5 (by decide), st_nils T61 s61, fa_ptr T64 p64_6 (by decide), st_nils T62 s62, hg, put_put, st8_1, st8_2, st8_3, st8_6, st8_7, run0_h]
theorem V9 {I : Nat → Option (List AV → AH → Rs)} (h21 : I 21 = none) (h23 : I 23 = none) (h24 : I 24 = none) (h9 : I 9 = none) (m p : Nat) (i lo hi : Int) (S : List Sn) (off : Nat → Prop) (h : AH) (hL : Lk h p lo hi S off) (hl : ¬ lo = 0) :
    ∃ h2 off2, call F I T (m + 5) 9 [.ptr p 0, .int .i64 i] h = some (.int .i64 (bad S.length i), h2) ∧ Lk h2 p lo hi (if bad S.length i = 0 then updI S i.toNat probeF else S) off2 ∧ Stf h h2 off off2 := by
  have hL0 := hL
  obtain ⟨own, sv, M, hM, rfl, rfl⟩ := hL
  have k1 := run23 h21 h23 (m + 2) p i lo hi own sv M h hM hl
  obtain ⟨fr, g⟩ := hM.g
  rw [List.length_map]
  by_cases c1 : bad M.length i = 0
  rotate_left
  · rw [if_neg c1]
    refine ⟨h, _, ?_, hL0, Stf.refl _ _⟩
    rw [call_F (by decide) h9 F9 rfl R9]; simp only [Try.f9, Option.getD]
    simp +contextual (maxSteps := 3000000) only [↓code_seq, ↓code_region, ↓code_cond, ↓code_ret, aCond_bool, ↓ops_nil, ↓ops_cons, run_none, ↓run0_v, ↓run0_r, ↓seqK_normal, ↓seqK_ret, ↓retK_ret, put_same, put_ne, env0_at, ev_tmp, ev_const, ev_func, oc_int, o_move, o_assign, o_bin, o_call, g_none, bin_neq, resultsOf, oneOrAll, Option.map_some, Option.getD_some, ↓reduceIte, Nat.reduceEqDiff, not_false_eq_true, reduceCtorEq, List.getElem?_cons_zero, List.getElem?_cons_succ, List.map_cons, List.map_nil, List.append_nil, List.nil_append, Bool.not_eq_eq_eq_not, Bool.not_true, ne_eq, decide_eq_false_iff_not, k1, c1, callV_fn (g := 23) (by decide)]
  rw [if_pos c1]
  have hb : 0 ≤ i ∧ i < (M.length : Int) := by unfold bad at c1; split at c1 <;> omega
  obtain ⟨j, rfl⟩ : ∃ j : Nat, i = (j : Int) := ⟨i.toNat, by omega⟩
  obtain ⟨q, hq⟩ : ∃ q, M[j]? = some q := ⟨M[j]'(by omega), List.getElem?_eq_getElem (by omega)⟩
  obtain ⟨b, cs, bk, w1, w2, w3⟩ := loadM hM.r hq
  have hS := StOk.ptr hM hq
  rw [Int.toNat_natCast, c1]
  by_cases c2 : q.s.st = 1
  · refine ⟨h, _, ?_, ?_, Stf.refl _ _⟩
    · rw [call_F (by decide) h9 F9 rfl R9]; simp only [Try.f9, Option.getD]
      simp +contextual (maxSteps := 3000000) only [↓code_skip, ↓code_seq, ↓code_region, ↓code_cond, ↓code_ret, aCond_bool, ↓ops_nil, ↓ops_cons, run_none, ↓run0_v, ↓run0_r, ↓seqK_normal, ↓retK_ret, put_same, put_ne, env0_at, ev_tmp, ev_const, ev_func, oc_int, o_move, o_assign, o_bin, o_call, o_load, o_nilCheck, o_fieldAddr, o_indexAddr, g_none, bin_neq, nil_ptr, resultsOf, oneOrAll, Option.map_some, Option.getD_some, ↓reduceIte, Nat.reduceEqDiff, not_false_eq_true, not_true_eq_false, Nat.reduceAdd, reduceCtorEq, List.getElem?_cons_zero, List.getElem?_cons_succ, List.map_cons, List.map_nil, List.append_nil, List.nil_append, Bool.not_eq_eq_eq_not, Bool.not_true, ne_eq, decide_eq_false_iff_not, fa_ptr T58 p58_3 (by decide), load_p1 T56 a56, loadc_def, load_p1 T59 a59, fa_ptr T64 p64_1 (by decide), load_p1 T3 a3, k1, eq_true c1, g, w1, w2, w3, hS, eq_true c2, callV_fn (g := 23) (by decide)]
    · refine ⟨own, sv, M, hM, ?_, rfl⟩
      rw [updI_map hq probeF q (by unfold probeF; rw [if_pos c2])]
      congr 1
      have := (List.getElem?_eq_some_iff.1 hq)
      rw [← this.2]; exact List.set_getElem_self _
  · have k2 := run24 h24 (m + 3) q.a q.s.rv q.av q.hv q.s.st q.s.k q.s.se q.s.n q.s.d h hS
    obtain ⟨t1, t2⟩ := hM.clear hq 1
    refine ⟨_, _, ?_, ⟨own, sv, _, t1, updI_map hq probeF _ (by unfold probeF; rw [if_neg c2]), rfl⟩, t2⟩
    rw [call_F (by decide) h9 F9 rfl R9]; simp only [Try.f9, Option.getD]
    simp +contextual (maxSteps := 3000000) only [↓code_skip, ↓code_seq, ↓code_region, ↓code_cond, ↓code_ret, aCond_bool, ↓ops_nil, ↓ops_cons, run_none, ↓run0_v, ↓run0_h, ↓run0_r, ↓seqK_normal, ↓retK_ret, put_same, put_ne, put_none, env0_at, ev_tmp, ev_const, ev_func, oc_int, o_move, o_assign, o_bin, o_call, o_load, o_store, o_nilCheck, o_fieldAddr, o_indexAddr, g_none, bin_neq, nil_ptr, resultsOf, oneOrAll, Option.map_some, Option.getD_some, ↓reduceIte, Nat.reduceEqDiff, not_false_eq_true, not_true_eq_false, Nat.reduceAdd, reduceCtorEq, List.getElem?_cons_zero, List.getElem?_cons_succ, List.map_cons, List.map_nil, List.append_nil, List.nil_append, AH.get_put, Bool.not_eq_eq_eq_not, Bool.not_true, ne_eq, decide_eq_false_iff_not, fa_ptr T58 p58_3 (by decide), load_p1 T56 a56, loadc_def, load_p1 T59 a59, fa_ptr T64 p64_1 (by decide), load_p1 T3 a3, st_int T3 s3, run0_h, k1, eq_true c1, g, w1, w2, w3, hS, c2, k2, put_put, st8_1, run0_h, callV_fn (g := 23) (by decide), callV_fn (g := 24) (by decide)]
theorem V14 {I : Nat → Option (List AV → AH → Rs)} (h21 : I 21 = none) (h23 : I 23 = none) (h24 : I 24 = none) (h14 : I 14 = none) (m p : Nat) (i lo hi : Int) (S : List Sn) (off : Nat → Prop) (h : AH) (hL : Lk h p lo hi S off) (hl : ¬ lo = 0) :
    ∃ h2 off2, call F I T (m + 5) 14 [.ptr p 0, .int .i64 i] h = some (.int .i64 (bad S.length i), h2) ∧ Lk h2 p lo hi (if bad S.length i = 0 then updI S i.toNat leaveS else S) off2 ∧ Stf h h2 off off2 := by
  have hL0 := hL
  obtain ⟨own, sv, M, hM, rfl, rfl⟩ := hL
  have k1 := run23 h21 h23 (m + 2) p i lo hi own sv M h hM hl
  obtain ⟨fr, g⟩ := hM.g
  rw [List.length_map]
  by_cases c1 : bad M.length i = 0
  rotate_left
  · rw [if_neg c1]
    refine ⟨h, _, ?_, hL0, Stf.refl _ _⟩
    rw [call_F (by decide) h14 F14 rfl R14]; simp only [Try.f14, Option.getD]
    simp +contextual (maxSteps := 3000000) only [↓code_seq, ↓code_region, ↓code_cond, ↓code_ret, aCond_bool, ↓ops_nil, ↓ops_cons, run_none, ↓run0_v, ↓run0_r, ↓seqK_normal, ↓seqK_ret, ↓retK_ret, put_same, put_ne, env0_at, ev_tmp, ev_const, ev_func, oc_int, o_move, o_assign, o_bin, o_call, g_none, bin_neq, resultsOf, oneOrAll, Option.map_some, Option.getD_some, ↓reduceIte, Nat.reduceEqDiff, not_false_eq_true, reduceCtorEq, List.getElem?_cons_zero, List.getElem?_cons_succ, List.map_cons, List.map_nil, List.append_nil, List.nil_append, Bool.not_eq_eq_eq_not, Bool.not_true, ne_eq, decide_eq_false_iff_not, k1, c1, callV_fn (g := 23) (by decide)]
  rw [if_pos c1]
  have hb : 0 ≤ i ∧ i < (M.length : Int) := by unfold bad at c1; split at c1 <;> omega
  obtain ⟨j, rfl⟩ : ∃ j : Nat, i = (j : Int) := ⟨i.toNat, by omega⟩
  obtain ⟨q, hq⟩ : ∃ q, M[j]? = some q := ⟨M[j]'(by omega), List.getElem?_eq_getElem (by omega)⟩
  obtain ⟨b, cs, bk, w1, w2, w3⟩ := loadM hM.r hq
  have hS := StOk.ptr hM hq
  rw [Int.toNat_natCast, c1]
  have k2 := run24 h24 (m + 3) q.a q.s.rv q.av q.hv q.s.st q.s.k q.s.se q.s.n q.s.d h hS
  obtain ⟨t1, t2⟩ := hM.clear hq 0
  refine ⟨_, _, ?_, ⟨own, sv, _, t1, updI_map hq leaveS _ rfl, rfl⟩, t2⟩
  rw [call_F (by decide) h14 F14 rfl R14]; simp only [Try.f14, Option.getD]
  simp +contextual (maxSteps := 3000000) only [↓code_skip, ↓code_seq, ↓code_region, ↓code_cond, ↓code_ret, aCond_bool, ↓ops_nil, ↓ops_cons, run_none, ↓run0_v, ↓run0_r, ↓seqK_normal, ↓retK_ret, put_same, put_ne, env0_at, ev_tmp, ev_const, ev_func, oc_int, o_move, o_assign, o_bin, o_call, o_load, o_nilCheck, o_fieldAddr, o_indexAddr, g_none, bin_neq, nil_ptr, resultsOf, oneOrAll, Option.map_some, Option.getD_some, ↓reduceIte, Nat.reduceEqDiff, not_false_eq_true, not_true_eq_false, Nat.reduceAdd, reduceCtorEq, List.getElem?_cons_zero, List.getElem?_cons_succ, List.map_cons, List.map_nil, List.append_nil, List.nil_append, Bool.not_eq_eq_eq_not, Bool.not_true, ne_eq, decide_eq_false_iff_not, fa_ptr T58 p58_3 (by decide), load_p1 T56 a56, loadc_def, load_p1 T59 a59, k1, eq_true c1, g, w1, w2, w3, k2, callV_fn (g := 23) (by decide), callV_fn (g := 24) (by decide)]
theorem V17 {I : Nat → Option (List AV → AH → Rs)} (h21 : I 21 = none) (h23 : I 23 = none) (h17 : I 17 = none) (m p : Nat) (i : Nat) (lo hi : Int) (S : List Sn) (s : Sn) (off : Nat → Prop) (h : AH) (hL : Lk h p lo hi S off) (hl : ¬ lo = 0) (hs : S[i]? = some s) :
    call F I T (m + 5) 17 [.ptr p 0, .int .i64 (i : Nat)] h = some (.int .i64 s.st, h) := by
  obtain ⟨own, sv, M, hM, rfl, rfl⟩ := hL
  have k1 := run23 h21 h23 (m + 2) p i lo hi own sv M h hM hl
  obtain ⟨fr, g⟩ := hM.g
  rw [List.getElem?_map, Option.map_eq_some_iff] at hs
  obtain ⟨q, hq, rfl⟩ := hs
  have hil := (List.getElem?_eq_some_iff.1 hq).1
  have c1 : bad M.length (i : Int) = 0 := by unfold bad; rw [if_neg (by omega)]
  rw [c1] at k1
  obtain ⟨b, cs, bk, w1, w2, w3⟩ := loadM hM.r hq
  have hS := StOk.ptr hM hq
  rw [call_F (by decide) h17 F17 rfl R17]; simp only [Try.f17, Option.getD]
  simp +contextual (maxSteps := 3000000) only [↓code_seq, ↓code_region, ↓code_cond, ↓code_block, ↓code_ret, aCond_bool, ↓ops_nil, ↓ops_cons, run_none, ↓run0_v, ↓run0_r, ↓seqK_normal, ↓seqK_ret, ↓blkK_ret, ↓retK_ret, put_same, put_ne, env0_at, ev_tmp, ev_const, ev_func, oc_int, o_move, o_assign, o_bin, o_call, o_load, o_nilCheck, o_fieldAddr, o_indexAddr, g_none, bin_eql, nil_ptr, resultsOf, oneOrAll, Option.map_some, Option.getD_some, decide_eq_true_eq, ↓reduceIte, Nat.reduceEqDiff, not_false_eq_true, Nat.reduceAdd, reduceCtorEq, List.getElem?_cons_zero, List.getElem?_cons_succ, List.map_cons, List.map_nil, List.append_nil, List.nil_append, ne_eq, fa_ptr T58 p58_3 (by decide), load_p1 T56 a56, loadc_def, load_p1 T59 a59, fa_ptr T64 p64_1 (by decide), load_p1 T3 a3, k1, g, w1, w2, w3, hS, callV_fn (g := 23) (by decide)]
theorem V12 {I : Nat → Option (List AV → AH → Rs)} (h21 : I 21 = none) (h23 : I 23 = none) (h12 : I 12 = none) (m p : Nat) (i : Nat) (lo hi : Int) (S : List Sn) (s : Sn) (off : Nat → Prop) (h : AH) (hL : Lk h p lo hi S off) (hl : ¬ lo = 0) (hs : S[i]? = some s) :
    ∃ h2 n d, call F I T (m + 5) 12 [.ptr p 0, .int .i64 (i : Nat)] h = some (.tup [.agg [.int .i64 n, .int .i64 d], .bool (decide (s.st = 2))], h2) ∧ Grow h h2 ∧ (s.st = 2 → n = s.n ∧ d = s.d) := by
  obtain ⟨own, sv, M, hM, rfl, rfl⟩ := hL
  have hg := Grow.alloc h (.cells [.int .i64 0, .int .i64 0] .own)
  have hM2 := hM.grow hg
  have k1 := run23 h21 h23 (m + 2) p i lo hi own sv M _ hM2 hl
  obtain ⟨fr, g⟩ := hM2.g
  rw [List.getElem?_map, Option.map_eq_some_iff] at hs
  obtain ⟨q, hq, rfl⟩ := hs
  have hil := (List.getElem?_eq_some_iff.1 hq).1
  have c1 : bad M.length (i : Int) = 0 := by unfold bad; rw [if_neg (by omega)]
  rw [c1] at k1
  obtain ⟨b, cs, bk, w1, w2, w3⟩ := loadM hM2.r hq
  have hS := StOk.ptr hM2 hq
  obtain ⟨h1, e1⟩ : ∃ h1, h1 = h.alloc (.cells [.int .i64 0, .int .i64 0] .own) := ⟨_, rfl⟩
  have g0 : h1.get h.next = some (.cells [.int .i64 0, .int .i64 0] .own) := by rw [e1, AH.get_alloc, if_pos rfl]
  rw [← e1] at k1 g w2 hS hg
  by_cases c2 : q.s.st = 2
  · refine ⟨h1.put h.next (.cells [.int .i64 q.s.n, .int .i64 q.s.d] .own), q.s.n, q.s.d, ?_, ⟨hg.1, fun c hc => by rw [AH.get_put, if_neg (by omega)]; exact hg.2 c hc⟩, fun _ => ⟨rfl, rfl⟩⟩
    have y1 := st2_0 (x := .int .i64 q.s.n) (y := .int .i64 q.s.d) rfl rfl g0
    rw [call_F (by decide) h12 F12 rfl R12]; simp only [Try.f12, Option.getD]
    simp +contextual (maxSteps := 3000000) only [↓code_skip, ↓code_seq, ↓code_region, ↓code_cond, ↓code_ret, aCond_bool, ↓ops_nil, ↓ops_cons, run_none, run_someF, ↓run0_v, ↓run0_h, ↓run0_r, ↓seqK_normal, ↓retK_ret, put_same, put_ne, put_none, env0_at, ev_tmp, ev_const, ev_func, oc_int, oc_bool, o_move, o_assign, o_pick, o_bin, o_call, o_alloc, o_load, o_store, o_nilCheck, o_fieldAddr, o_indexAddr, g_none, g_some, pick_bool, bin_neq, nil_ptr, resultsOf, oneOrAll, Option.bind_some, Option.map_some, Option.getD_some, ↓reduceIte, Nat.reduceEqDiff, not_false_eq_true, Nat.reduceAdd, reduceCtorEq, List.getElem?_cons_zero, List.getElem?_cons_succ, List.getElem?_toArray, Bool.false_eq_true, List.map_cons, List.map_nil, List.append_nil, List.nil_append, AH.get_put, Nat.reduceLeDiff, Nat.le_refl, Bool.not_true, ne_eq, alloc_t T35, z35, fa_ptr T58 p58_3 (by decide), load_p1 T56 a56, loadc_def, load_p1 T59 a59, fa_ptr T64 p64_1 (by decide), load_p1 T3 a3, List.take_succ_cons, List.take_zero, List.take_nil, List.drop_succ_cons, List.drop_zero, List.length_cons, List.length_nil, fa_ptr T64 p64_4 (by decide), load_pA T35 a35, s35, loadn_def, List.length_cons, List.length_nil, List.drop_zero, List.take_succ_cons, List.take_zero, List.take_nil, Nat.zero_add, ← e1, k1, g, w1, w2, w3, hS, y1, run0_h, eq_true c2, decide_true, callV_fn (g := 23) (by decide)]
  · refine ⟨h1.put h.next (.cells [.int .i64 0, .int .i64 0] .own), 0, 0, ?_, ⟨hg.1, fun c hc => by rw [AH.get_put, if_neg (by omega)]; exact hg.2 c hc⟩, fun e => absurd e c2⟩
    have y1 := st2_0 (x := .int .i64 0) (y := .int .i64 0) rfl rfl g0
    rw [call_F (by decide) h12 F12 rfl R12]; simp only [Try.f12, Option.getD]
    simp +contextual (maxSteps := 3000000) only [↓code_seq, ↓code_region, ↓code_cond, ↓code_ret, aCond_bool, ↓ops_nil, ↓ops_cons, run_none, run_someF, ↓run0_v, ↓run0_h, ↓run0_r, ↓seqK_normal, ↓seqK_ret, ↓retK_ret, put_same, put_ne, put_none, env0_at, ev_tmp, ev_const, ev_func, oc_int, oc_bool, o_move, o_assign, o_pick, o_bin, o_call, o_alloc, o_build, o_load, o_store, o_nilCheck, o_fieldAddr, o_indexAddr, g_none, g_some, pick_bool, bin_neq, nil_ptr, resultsOf, oneOrAll, Option.bind_some, Option.map_some, Option.getD_some, ↓reduceIte, Nat.reduceEqDiff, not_false_eq_true, not_true_eq_false, Nat.reduceAdd, reduceCtorEq, List.getElem?_cons_zero, List.getElem?_cons_succ, List.getElem?_toArray, List.map_cons, List.map_nil, List.append_nil, List.nil_append, AH.get_put, Nat.le_refl, Bool.not_eq_eq_eq_not, Bool.not_true, Bool.not_false, ne_eq, decide_eq_false_iff_not, alloc_t T35, z35, fa_ptr T58 p58_3 (by decide), load_p1 T56 a56, loadc_def, load_p1 T59 a59, fa_ptr T64 p64_1 (by decide), load_p1 T3 a3, build_struct T35 d35, parts_eq, fillA, List.take_succ_cons, List.take_nil, List.drop_zero, List.length_cons, List.length_nil, load_pA T35 a35, s35, loadn_def, List.length_cons, List.length_nil, List.drop_zero, List.take_succ_cons, List.take_nil, Nat.zero_add, ← e1, k1, g, w1, w2, w3, hS, y1, run0_h, c2, decide_false, callV_fn (g := 23) (by decide)]
end Go.AM.X
