/- What lies from a place on in bytes. Own work. -/
import Derived.Test.YtdehanhonfbdpaaZbkG
namespace Go.AM.X.P
open Go Go.AM Go.Proofs Go.AM.Sx Go.AM.X
set_option maxHeartbeats 1600000
set_option maxRecDepth 100000
set_option linter.unusedVariables false
/-- What lies from a place on. -/
def At (b : List UInt8) (p : Nat) (r : List UInt8) : Prop := p ≤ b.length ∧ b.drop p = r
theorem At.next {b : List UInt8} {p : Nat} {w r : List UInt8} (h : At b p (w ++ r)) : At b (p + w.length) r := by
  have hl : (b.drop p).length = (w ++ r).length := by rw [h.2]
  simp only [List.length_drop, List.length_append] at hl
  have := h.1
  refine ⟨by omega, ?_⟩
  rw [← List.drop_drop, h.2, List.drop_left]
theorem At.get {b : List UInt8} {p : Nat} {w r : List UInt8} (h : At b p (w ++ r)) (hw : w.length = 1 ∨ w.length = 2) : getS b p (w.length : Nat) = (((beN w : Nat) : Int), ((p + w.length : Nat) : Int), 0) := by
  have h1 := h.next.1
  have h2 : isWidth ((w.length : Nat) : Int) = true := by rcases hw with h | h <;> rw [h] <;> rfl
  have h3 := h.1
  unfold getS
  rw [if_pos ⟨h2, by omega, by omega⟩, if_neg (by omega)]
  simp only [toNat_cast, h.2, List.take_left]
  rfl
theorem putT_len (s : List UInt8) : (putT s).length = s.length + 1 := by simp [putT]
theorem u8_at {k : Nat} (h : k < 256) : (UInt8.ofNat k).toNat = k := toNat_ofNat h
theorem alloc_put (h : AH) (x y : AB) : (h.alloc x).put h.next y = h.alloc y := by
  simp only [AH.alloc, AH.put, PT.set, setF_setF]
end Go.AM.X.P
namespace Go.AM.X.P
open Go Go.AM Go.Proofs Go.AM.Sx Go.AM.X
set_option maxHeartbeats 1600000
set_option maxRecDepth 100000
set_option linter.unusedVariables false
theorem At.net {b : List UInt8} {p : Nat} {n : Int} {r : List UInt8} (h : At b p (be2 n ++ r)) (hn : isNet n = true) : netS b p 0 = (n, ((p + 2 : Nat) : Int), 0) ∧ At b (p + 2) r := by
  have h1 := At.get (w := be2 n) (r := r) h (.inr rfl)
  have h2 := net_lt hn
  have b1 := u8_at (k := n.toNat / 256) (by omega)
  have b2 := u8_at (k := n.toNat % 256) (by omega)
  have h3 : getS b p 2 = (n, ((p + 2 : Nat) : Int), 0) := by
    have h4 : ((beN (be2 n) : Nat) : Int) = n := by simp only [beN, be2, List.foldl_cons, List.foldl_nil, b1, b2]; omega
    rw [h4] at h1; exact h1
  refine ⟨?_, At.next (w := be2 n) h⟩
  simp [netS, h3, hn]
theorem gl_net {b : List UInt8} : ∀ {l : List Int} {p : Nat} {o : List Int}, At b p (l.flatMap be2) → (∀ x ∈ l, isNet x = true) → gl (netS b) l.length p 0 o = (o ++ l, ((b.length : Nat) : Int), 0)
  | [], p, o, h, _ => by
    have h1 := h.1
    have h2 : (b.drop p).length = 0 := by rw [h.2]; rfl
    rw [List.length_drop] at h2
    simp only [gl, List.length_nil, List.append_nil]
    rw [show p = b.length by omega]
  | x :: l, p, o, h, hx => by
    rw [List.flatMap_cons] at h
    obtain ⟨h1, h2⟩ := h.net (hx x (by simp))
    rw [List.length_cons, gl, if_pos rfl, h1]
    simp only
    rw [gl_net h2 (fun y hy => hx y (by simp [hy]))]
    simp
theorem backQ {l : List Int} (h : areNets l = true) : getQ 1 netS (head2 1 l.length ++ l.flatMap be2) = (l, 0) := by
  obtain ⟨⟨h1, h2⟩, _, h3⟩ := areNets_mem h
  have c1 := u8_at (k := l.length) (by omega)
  have hb : beginS 1 (head2 1 l.length ++ l.flatMap be2) = (((l.length : Nat) : Int), 2, 0) := by
    simp only [head2, List.cons_append, List.nil_append, beginS, if_true, c1]
    rw [if_pos ⟨h1, h2⟩]
  have a2 : At (head2 1 l.length ++ l.flatMap be2) 2 (l.flatMap be2) := ⟨by simp [head2], by simp [head2]⟩
  have hg := gl_net (o := []) a2 h3
  unfold getQ
  simp only [hb, toNat_cast]
  have hg' : gl (netS (head2 1 l.length ++ l.flatMap be2)) l.length 2 0 [] = (l, (((head2 1 l.length ++ l.flatMap be2).length : Nat) : Int), 0) := hg
  rw [hg']
  simp [endS]
theorem textS_at {b : List UInt8} {p : Nat} {s r : List UInt8} (h : At b p (putT s ++ r)) (hl : s.length ≤ 31) : textS b p = (s, ((p + (putT s).length : Nat) : Int), 0) := by
  have h0 : (UInt8.ofNat s.length).toNat = s.length := toNat_ofNat (by omega)
  have h1 := h.next.1
  have hpl := putT_len s
  have h2 : b[p]? = some (UInt8.ofNat s.length) := by
    have : (b.drop p)[0]? = some (UInt8.ofNat s.length) := by rw [h.2]; rfl
    rwa [List.getElem?_drop] at this
  have h3 : (b.drop (p + 1)).take s.length = s := by
    rw [← List.drop_drop, h.2]
    show ((s ++ r).take s.length) = s
    rw [List.take_left]
  unfold textS
  rw [if_pos ⟨by omega, by omega⟩]
  simp only [toNat_cast, h2, h0]
  rw [if_neg (by omega), if_neg (by omega), h3, hpl]
  rw [show p + 1 + s.length = p + (s.length + 1) by omega]
theorem At.zone {b : List UInt8} {p : Nat} {z r : List UInt8} (h : At b p (putT z ++ r)) (hz : isZone z = true) : zoneS b p 0 = (z, ((p + (putT z).length : Nat) : Int), 0) ∧ At b (p + (putT z).length) r := by
  have h1 := textS_at h (zone_len hz).2
  refine ⟨?_, h.next⟩
  simp [zoneS, h1, hz]
theorem At.pair {b : List UInt8} {p : Nat} {x : Int × List UInt8} {r : List UInt8} (h : At b p (pr x ++ r)) (hx : isNet x.1 = true ∧ isZone x.2 = true) : stp b p 0 = (x, ((p + (pr x).length : Nat) : Int), 0) ∧ At b (p + (pr x).length) r := by
  refine ⟨?_, h.next⟩
  unfold pr at h
  rw [List.append_assoc] at h
  obtain ⟨h1, h2⟩ := h.net hx.1
  obtain ⟨h3, _⟩ := h2.zone hx.2
  have hl : (pr x).length = 2 + (putT x.2).length := by simp [pr, be2]; omega
  simp only [stp, two, h1, h3]
  rw [hl, show p + 2 + (putT x.2).length = p + (2 + (putT x.2).length) by omega]
theorem gl_pair {b : List UInt8} : ∀ {l : List (Int × List UInt8)} {p : Nat} {o : List (Int × List UInt8)}, At b p (l.flatMap pr) → (∀ x ∈ l, isNet x.1 = true ∧ isZone x.2 = true) → gl (stp b) l.length p 0 o = (o ++ l, ((b.length : Nat) : Int), 0)
  | [], p, o, h, _ => by
    have h1 := h.1
    have h2 : (b.drop p).length = 0 := by rw [h.2]; rfl
    rw [List.length_drop] at h2
    simp only [gl, List.length_nil, List.append_nil]
    rw [show p = b.length by omega]
  | x :: l, p, o, h, hx => by
    rw [List.flatMap_cons] at h
    obtain ⟨h1, h2⟩ := h.pair (hx x (by simp))
    rw [List.length_cons, gl, if_pos rfl, h1]
    simp only
    rw [gl_pair h2 (fun y hy => hx y (by simp [hy]))]
    simp
theorem backR {l : List (Int × List UInt8)} (h1 : 1 ≤ l.length ∧ l.length ≤ 100) (h3 : ∀ x ∈ l, isNet x.1 = true ∧ isZone x.2 = true) : getQ 2 stp (rep 2 l.length l) = (l, 0) := by
  have c1 := u8_at (k := l.length) (by omega)
  have hb : beginS 2 (rep 2 l.length l) = (((l.length : Nat) : Int), 2, 0) := by
    simp only [rep, head2, toNat_cast, List.cons_append, List.nil_append, beginS, if_true, c1]
    rw [if_pos h1]
  have a2 : At (rep 2 l.length l) 2 (l.flatMap pr) := ⟨by simp [rep, head2], by simp [rep, head2]⟩
  have hg := gl_pair (o := []) a2 h3
  unfold getQ
  simp only [hb, toNat_cast]
  have hg' : gl (stp (rep 2 l.length l)) l.length 2 0 [] = (l, (((rep 2 l.length l).length : Nat) : Int), 0) := hg
  rw [hg']
  simp [endS]
end Go.AM.X.P
namespace Go.AM.X.P
open Go Go.AM Go.Proofs Go.AM.Sx Go.AM.X
set_option maxHeartbeats 3200000
set_option maxRecDepth 100000
set_option linter.unusedVariables false
theorem F37 : F 37 = some { body := (Try.f37.body.getD .skip), results := Try.f37.results.toList, rf := false } := by kernel_rfl
theorem R37 : regsOk T (Try.f37.body.getD .skip) = true := by kernel_rfl
/-- Something is pushed on a row, and where the row is then. -/
theorem pushB {T : TT} {h : AH} {t el : Nat} {ti te : TI} {v x : AV} {n : Nat} {cs : List AV} (ht : T t = some ti) (hd : ti.desc = .slice el) (he : T el = some te) (hz : te.size = 1) (hb : 0 < te.bytes) (ho : Row 1 h v n cs) (hone : x.one = true)
    (hsm : (n + 1) * te.bytes < maxBytes) :
    ∃ b h2, aAppend T t t v (.sl h.next 0 1 1 1 true) (h.alloc (.cells [x] .own)) = some (.sl b 0 (n + 1) (n + 1) 1 false, h2) ∧ Row 1 h2 (.sl b 0 (n + 1) (n + 1) 1 false) (n + 1) (cs ++ [x]) ∧ h2.get b = some (.cells (cs ++ [x]) .own) ∧ h.next ≤ h2.next ∧ h.next ≤ b ∧ b < h2.next ∧ (∀ c, c < h.next → offRow v c → h2.get c = h.get c) := by
  obtain ⟨bb, h2, happ, hrow2, hn1, hn2, hkeep⟩ := (ho.alloc (.cells [x] .own)).app ht hd he (isSrc_sl ht hd) hz hb (m := 1) (new := [x])
    (x := .sl h.next 0 1 1 1 true) (by rw [hz, src_sl]; simp [AH.loadn, AH.get_alloc]) (by omega) rfl (by simp [hone]) hsm
  have hg : h2.get bb = some (.cells (cs ++ [x]) .own) ∧ bb < h2.next := by
    rcases hrow2 with ⟨h0, _⟩ | ⟨b', h0, _, _, h3, h4⟩
    · cases h0
    · cases h0; exact ⟨h4, h3⟩
  refine ⟨bb, h2, happ, hrow2, hg.1, by simp at hn1; omega, by simp at hn2; omega, hg.2, fun c hc hoff => ?_⟩
  rw [hkeep c (by simp; omega) hoff, AH.get_alloc, if_neg (by omega)]
theorem apart_symm {v w : AV} (h : apart v w) : apart w v := fun b o l k z x hv b' o' l' k' z' x' hw hq => h _ _ _ _ _ _ hw _ _ _ _ _ _ hv hq.symm
/-- The block of a row lies at or above. -/
def abv (n : Nat) (v : AV) : Prop := ∀ b o l k z x, v = .sl b o l k z x → n ≤ b
theorem abv.mono {n m : Nat} {v : AV} (h : abv n v) (hm : m ≤ n) : abv m v := fun b o l k z x hv => by have := h _ _ _ _ _ _ hv; omega
theorem abv.off {n c : Nat} {v : AV} (h : abv n v) (hc : c < n) : offRow v c := fun b o l k z x hv => by have := h _ _ _ _ _ _ hv; omega
theorem abv.nil (n : Nat) : abv n .nils := fun b o l k z x hv => by cases hv
theorem abv.sl {n b l : Nat} {x : Bool} {z k o : Nat} (h : n ≤ b) : abv n (.sl b o l k z x) := fun b o l k z x hv => by cases hv; exact h
theorem abv.apart {n : Nat} {v w : AV} (h : abv n v) (hw : ∀ b o l k z x, w = .sl b o l k z x → b < n) : Go.AM.Sx.apart v w := fun b o l k z x hv => h.off (hw _ _ _ _ _ _ hv)
theorem abv.apart' {n : Nat} {v w : AV} (h : abv n w) (hw : ∀ b o l k z x, v = .sl b o l k z x → b < n) : Go.AM.Sx.apart v w := apart_symm (h.apart hw)
/-- The elements of a row of rows of texts. -/
def ElsT (h : AH) (v : AV) (es : List AV) (gs : List (List (List UInt8))) : Prop :=
  es.length = gs.length ∧ ∀ (q : Nat) (e : AV) (g : List (List UInt8)), es[q]? = some e → gs[q]? = some g → Row 1 h e g.length (g.map .str) ∧ apart v e
theorem row_len {t el : Nat} {ti : TI} {h h2 : AH} {v : AV} {n : Nat} {cs : List AV} (ht : T t = some ti) (hd : ti.desc = .slice el) (hr : Row 1 h v n cs) : aLen T t v h2 = some (.int .i64 (n : Nat)) := by
  rcases hr with ⟨rfl, rfl, _⟩ | ⟨b, rfl, _⟩
  · simp [aLen, ht, hd]
  · simp [aLen, ht, hd]
/-- One element of a row. -/
theorem row_at {t el : Nat} {ti te : TI} {h : AH} {v : AV} {n : Nat} {cs : List AV} {x : AV} {i : Nat} (ht : T t = some ti) (hd : ti.desc = .slice el) (he : T el = some te) (hz : te.size = 1) (ha : te.agg = false) (hr : Row 1 h v n cs) (hx : cs[i]? = some x) :
    ∃ p, aIndexAddr T t v (.int .i64 (i : Nat)) = some p ∧ aLoad T el p h = some x := by
  have hi := (List.getElem?_eq_some_iff.1 hx).1
  rcases hr with ⟨rfl, rfl, rfl⟩ | ⟨b, rfl, h1, h2, h3, h4⟩
  · simp at hi
  · refine ⟨.ptr b (0 + i * 1), ?_, ?_⟩
    · rw [ia_sl ht hd he hz, if_pos ⟨by omega, by omega⟩]; rfl
    · rw [load_p1 he ha, loadc_def, h4]; simpa using hx
def okG (gs : List (List (List UInt8))) : Prop := 1 ≤ gs.length ∧ gs.length ≤ 100 ∧ ∀ g ∈ gs, 1 ≤ g.length ∧ g.length ≤ 3 ∧ ∀ z ∈ g, isZone z = true
def pz (net : Int) (z : List UInt8) : List UInt8 := pr (net, z)
theorem piece_eq (net : Int) (tot : Nat) (g : List (List UInt8)) : piece net tot g = head2 8 tot ++ g.flatMap (pz net) := by
  simp only [piece, prs, pairsOf, List.flatMap_map]; rfl
theorem begin8 {tot : Nat} (h : 1 ≤ tot ∧ tot ≤ 100) (r : List UInt8) : beginS 8 (head2 8 tot ++ r) = (((tot : Nat) : Int), 2, 0) := by
  have c1 := u8_at (k := tot) (by omega)
  simp only [head2, List.cons_append, List.nil_append, beginS, if_true, c1]
  rw [if_pos h]
theorem pz_pos (net : Int) (z : List UInt8) : 0 < (pz net z).length := by simp [pz, pr, be2]
theorem pz_len {net : Int} {g : List (List UInt8)} (h : ∀ z ∈ g, isZone z = true) : (g.flatMap (pz net)).length ≤ 34 * g.length := by
  induction g with
  | nil => simp
  | cons z g ih =>
    have h1 := zone_len (h z (by simp))
    have h2 := ih fun y hy => h y (by simp [hy])
    have h3 : (pz net z).length = 3 + z.length := by simp [pz, pr, be2, putT]; omega
    simp only [List.flatMap_cons, List.length_append, List.length_cons]
    omega
def bsOf (net : Int) (tot : Nat) (gs : List (List (List UInt8))) : List (List UInt8) := gs.map (piece net tot)
def uni : List (List UInt8) → List (List UInt8) → List (List UInt8)
  | u, [] => u
  | u, z :: zs => if u.any (equal · z) then uni u zs else uni (u ++ [z]) zs
theorem uni_app : ∀ (u a b : List (List UInt8)), uni u (a ++ b) = uni (uni u a) b
  | u, [], b => rfl
  | u, z :: a, b => by
    simp only [List.cons_append, uni]
    split <;> exact uni_app _ _ _
theorem uni_len : ∀ (u a : List (List UInt8)), (uni u a).length ≤ u.length + a.length
  | u, [] => by simp [uni]
  | u, z :: a => by
    simp only [uni]
    split
    · have := uni_len u a; simp; omega
    · have := uni_len (u ++ [z]) a; simp at this ⊢; omega
theorem uni_mem : ∀ {u a : List (List UInt8)} {x : List UInt8}, x ∈ uni u a → x ∈ u ∨ x ∈ a
  | u, [], x, h => .inl h
  | u, z :: a, x, h => by
    simp only [uni] at h
    split at h
    · rcases uni_mem h with h | h
      · exact .inl h
      · exact .inr (by simp [h])
    · rcases uni_mem h with h | h
      · rcases List.mem_append.1 h with h | h
        · exact .inl h
        · simp at h; exact .inr (by simp [h])
      · exact .inr (by simp [h])
/-- The inner loop: what stands in memory. -/
structure In37 (H h : AH) (b : List UInt8) (net : Int) (g : List (List UInt8)) (q p : Nat) (u w : AV) : Prop where
  hu : Row 1 h u q (List.replicate q (.int .i64 net))
  hw : Row 1 h w q ((g.take q).map .str)
  hr : h.get H.next = some (rd false b p 0)
  ha : At b p ((g.drop q).flatMap (pz net))
  ub : abv (H.next + 1) u
  wb : abv (H.next + 1) w
  uw : apart u w
  nx : H.next < h.next
  kp : ∀ c, c < H.next → h.get c = H.get c
def nets37 (net : Int) (tot i : Nat) : List AV := (List.replicate i [AV.int .i64 net, AV.int .i64 tot]).flatten
theorem nets37_succ (net : Int) (tot i : Nat) : nets37 net tot (i + 1) = nets37 net tot i ++ [.int .i64 net, .int .i64 tot] := by
  simp [nets37, List.replicate_succ']
theorem nets37_at {net : Int} {tot : Nat} : ∀ {i n : Nat}, i < n → (nets37 net tot n)[2 * i]? = some (.int .i64 net) ∧ (nets37 net tot n)[2 * i + 1]? = some (.int .i64 tot)
  | i, 0, h => by omega
  | i, n + 1, h => by
    have hl : ∀ n, (nets37 net tot n).length = 2 * n := fun n => by
      induction n with
      | zero => rfl
      | succ n ih => rw [nets37_succ, List.length_append, ih]; simp; omega
    rw [nets37_succ]
    by_cases hi : i < n
    · obtain ⟨h1, h2⟩ := nets37_at (net := net) (tot := tot) hi
      rw [List.getElem?_append_left (by rw [hl]; omega), List.getElem?_append_left (by rw [hl]; omega)]
      exact ⟨h1, h2⟩
    · have : i = n := by omega
      subst this
      rw [List.getElem?_append_right (by rw [hl]; omega), List.getElem?_append_right (by rw [hl]; omega), hl]
      simp
end Go.AM.X.P
