/- Maps with whole-number keys, by what they answer. Own work. -/
import Derived.Test.YtleefbnanliliaaDoorPpgH
namespace Go.AM.Sx
open Go Go.AM
set_option linter.unusedVariables false
def encp (p : Int × AV) : AV × AV := (.int .i64 p.1, p.2)
def look (l : List (Int × AV)) (k : Int) : Option AV := match l with
  | [] => none
  | p :: l => if k = p.1 then some p.2 else look l k
theorem findA_none {k : Int} : ∀ {l : List (Int × AV)} (i : Nat), look l k = none → findA (.int .i64 k) (l.map encp) i = some none
  | [], i, _ => rfl
  | p :: l, i, h => by
    simp only [look] at h
    by_cases hk : k = p.1
    · rw [if_pos hk] at h; cases h
    · rw [if_neg hk] at h
      have hb : (k == p.1) = false := by simpa using hk
      simp only [List.map_cons, encp, findA, sameA, if_true, hb]
      exact findA_none (i + 1) h
theorem findA_some {k : Int} {v : AV} : ∀ {l : List (Int × AV)} (i : Nat), look l k = some v → ∃ j, findA (.int .i64 k) (l.map encp) i = some (some (i + j, v)) ∧ j < l.length ∧ ∀ w k', look (l.set j (k, w)) k' = if k' = k then some w else look l k'
  | [], i, h => by cases h
  | p :: l, i, h => by
    simp only [look] at h
    by_cases hk : k = p.1
    · rw [if_pos hk] at h
      cases h
      refine ⟨0, ?_, by simp, fun w k' => ?_⟩
      · have hb : (k == p.1) = true := by simpa using hk
        simp only [List.map_cons, encp, findA, sameA, if_true, hb]; rfl
      · simp only [List.set_cons_zero, look]
        by_cases h1 : k' = k
        · rw [if_pos h1, if_pos h1]
        · rw [if_neg h1, if_neg h1, if_neg (by rw [← hk]; exact h1)]
    · rw [if_neg hk] at h
      obtain ⟨j, h1, h2, h3⟩ := findA_some (i + 1) h
      refine ⟨j + 1, ?_, by simp; omega, fun w k' => ?_⟩
      · have hb : (k == p.1) = false := by simpa using hk
        simp only [List.map_cons, encp, findA, sameA, if_true, hb]
        show findA (.int .i64 k) (l.map encp) (i + 1) = _
        rw [h1]; congr 3; omega
      · simp only [List.set_cons_succ, look]
        rw [h3]
        by_cases h4 : k' = p.1
        · rw [if_pos h4, if_pos h4, if_neg (by rw [h4]; exact fun g => hk g.symm)]
        · rw [if_neg h4, if_neg h4]
theorem look_app {k' k : Int} {w : AV} : ∀ {l : List (Int × AV)}, look l k = none → look (l ++ [(k, w)]) k' = if k' = k then some w else look l k'
  | [], _ => by simp only [List.nil_append, look]
  | p :: l, h => by
    simp only [look] at h
    by_cases hk : k = p.1
    · rw [if_pos hk] at h; cases h
    · rw [if_neg hk] at h
      simp only [List.cons_append, look]
      rw [look_app h]
      by_cases h4 : k' = p.1
      · rw [if_pos h4, if_pos h4, if_neg (by rw [h4]; exact fun g => hk g.symm)]
      · rw [if_neg h4, if_neg h4]
/-- A map of the heap, by what it answers. -/
def MapI (h : AH) (b : Nat) (f : Int → Option AV) : Prop := ∃ l, h.get b = some (.map (l.map encp)) ∧ ∀ k, look l k = f k
theorem MapI.new (h : AH) : MapI (h.alloc (.map [])) h.next fun _ => none := ⟨[], by rw [AH.get_alloc, if_pos rfl]; rfl, fun k => rfl⟩
theorem MapI.keep {h h2 : AH} {b : Nat} {f : Int → Option AV} (hm : MapI h b f) (hk : h2.get b = h.get b) : MapI h2 b f := by
  obtain ⟨l, h1, h3⟩ := hm
  exact ⟨l, by rw [hk]; exact h1, h3⟩
theorem MapI.look {T : TT} {t : Nat} {z : AV} {h : AH} {b : Nat} {f : Int → Option AV} (hm : MapI h b f) (ht : intMap T t = some (some z)) (k : Int) : aLookup T t (.mp b) (.int .i64 k) false h = some ((f k).getD z) := by
  obtain ⟨l, h1, h3⟩ := hm
  simp only [aLookup, ht, mapEs, h1]
  rw [← h3 k]
  cases hl : Sx.look l k with
  | none => rw [findA_none 0 hl]; rfl
  | some v =>
    obtain ⟨j, g1, _, _⟩ := findA_some 0 hl
    rw [g1]; rfl
theorem MapI.upd {T : TT} {t : Nat} {z : Option AV} {h : AH} {b : Nat} {f : Int → Option AV} (hm : MapI h b f) (ht : intMap T t = some z) (k : Int) (w : AV) :
    ∃ h2, aMapUpd T t (.mp b) (.int .i64 k) w h = some h2 ∧ MapI h2 b (fun k' => if k' = k then some w else f k') ∧ h2.next = h.next ∧ ∀ c, c ≠ b → h2.get c = h.get c := by
  obtain ⟨l, h1, h3⟩ := hm
  cases hl : Sx.look l k with
  | none =>
    refine ⟨h.put b (.map ((l ++ [(k, w)]).map encp)), ?_, ⟨l ++ [(k, w)], by rw [AH.get_put, if_pos rfl], fun k' => by rw [look_app hl, h3]⟩, rfl, fun c hc => by rw [AH.get_put, if_neg hc]⟩
    simp only [aMapUpd, ht, h1]
    rw [findA_none 0 hl, List.map_append]; rfl
  | some v =>
    obtain ⟨j, g1, g2, g3⟩ := findA_some 0 hl
    refine ⟨h.put b (.map ((l.set j (k, w)).map encp)), ?_, ⟨l.set j (k, w), by rw [AH.get_put, if_pos rfl], fun k' => by rw [g3, h3]⟩, rfl, fun c hc => by rw [AH.get_put, if_neg hc]⟩
    simp only [aMapUpd, ht, h1]
    rw [g1, List.map_set, Nat.zero_add]; rfl
/-- A map of numbers. -/
def MapN (h : AH) (b : Nat) (f : Int → Int) : Prop := ∃ g, MapI h b g ∧ ∀ k, (g k).getD (.int .i64 0) = .int .i64 (f k)
theorem MapN.new (h : AH) : MapN (h.alloc (.map [])) h.next fun _ => 0 := ⟨_, MapI.new h, fun _ => rfl⟩
theorem MapN.keep {h h2 : AH} {b : Nat} {f : Int → Int} (hm : MapN h b f) (hk : h2.get b = h.get b) : MapN h2 b f := by
  obtain ⟨g, h1, h3⟩ := hm
  exact ⟨g, h1.keep hk, h3⟩
theorem MapN.look {T : TT} {t : Nat} {h : AH} {b : Nat} {f : Int → Int} (hm : MapN h b f) (ht : intMap T t = some (some (.int .i64 0))) (k : Int) : aLookup T t (.mp b) (.int .i64 k) false h = some (.int .i64 (f k)) := by
  obtain ⟨g, h1, h3⟩ := hm
  rw [h1.look ht, h3]
theorem MapN.upd {T : TT} {t : Nat} {z : Option AV} {h : AH} {b : Nat} {f : Int → Int} (hm : MapN h b f) (ht : intMap T t = some z) (k n : Int) :
    ∃ h2, aMapUpd T t (.mp b) (.int .i64 k) (.int .i64 n) h = some h2 ∧ MapN h2 b (fun k' => if k' = k then n else f k') ∧ h2.next = h.next ∧ ∀ c, c ≠ b → h2.get c = h.get c := by
  obtain ⟨g, h1, h3⟩ := hm
  obtain ⟨h2, q1, q2, q3, q4⟩ := h1.upd ht k (.int .i64 n)
  refine ⟨h2, q1, ⟨_, q2, fun k' => ?_⟩, q3, q4⟩
  by_cases h5 : k' = k
  · simp only [if_pos h5]; rfl
  · simp only [if_neg h5]; exact h3 k'
/-- A map of truths. -/
def MapB (h : AH) (b : Nat) (f : Int → Bool) : Prop := ∃ g, MapI h b g ∧ ∀ k, (g k).getD (.bool false) = .bool (f k)
theorem MapB.new (h : AH) : MapB (h.alloc (.map [])) h.next fun _ => false := ⟨_, MapI.new h, fun _ => rfl⟩
theorem MapB.keep {h h2 : AH} {b : Nat} {f : Int → Bool} (hm : MapB h b f) (hk : h2.get b = h.get b) : MapB h2 b f := by
  obtain ⟨g, h1, h3⟩ := hm
  exact ⟨g, h1.keep hk, h3⟩
theorem MapB.look {T : TT} {t : Nat} {h : AH} {b : Nat} {f : Int → Bool} (hm : MapB h b f) (ht : intMap T t = some (some (.bool false))) (k : Int) : aLookup T t (.mp b) (.int .i64 k) false h = some (.bool (f k)) := by
  obtain ⟨g, h1, h3⟩ := hm
  rw [h1.look ht, h3]
theorem MapB.upd {T : TT} {t : Nat} {z : Option AV} {h : AH} {b : Nat} {f : Int → Bool} (hm : MapB h b f) (ht : intMap T t = some z) (k : Int) (n : Bool) :
    ∃ h2, aMapUpd T t (.mp b) (.int .i64 k) (.bool n) h = some h2 ∧ MapB h2 b (fun k' => if k' = k then n else f k') ∧ h2.next = h.next ∧ ∀ c, c ≠ b → h2.get c = h.get c := by
  obtain ⟨g, h1, h3⟩ := hm
  obtain ⟨h2, q1, q2, q3, q4⟩ := h1.upd ht k (.bool n)
  refine ⟨h2, q1, ⟨_, q2, fun k' => ?_⟩, q3, q4⟩
  by_cases h5 : k' = k
  · simp only [if_pos h5]; rfl
  · simp only [if_neg h5]; exact h3 k'
end Go.AM.Sx
namespace Go.AM.Sx
open Go Go.AM
set_option linter.unusedVariables false
section
variable {α : Type} (enc : α → List AV) (k : Nat) (hk : ∀ x, (enc x).length = k)
def fl (l : List α) : List AV := l.flatMap enc
include hk
theorem fl_len (l : List α) : (fl enc l).length = l.length * k := by
  induction l with
  | nil => simp [fl]
  | cons x l ih => unfold fl at ih ⊢; rw [List.flatMap_cons, List.length_append, ih, hk, List.length_cons, Nat.add_mul]; omega
theorem fl_take : ∀ (l : List α) (i : Nat), (fl enc l).take (i * k) = fl enc (l.take i)
  | [], i => by simp [fl]
  | x :: l, 0 => by simp [fl]
  | x :: l, i + 1 => by
    have ih := fl_take l i
    unfold fl at ih ⊢
    rw [List.flatMap_cons, List.take_succ_cons, List.flatMap_cons, ← ih, show (i + 1) * k = (enc x).length + i * k by rw [hk, Nat.add_mul]; omega, List.take_length_add_append]
theorem fl_drop : ∀ (l : List α) (i : Nat), (fl enc l).drop (i * k) = fl enc (l.drop i)
  | [], i => by simp [fl]
  | x :: l, 0 => by simp
  | x :: l, i + 1 => by
    have ih := fl_drop l i
    unfold fl at ih ⊢
    rw [List.flatMap_cons, List.drop_succ_cons, ← ih, show (i + 1) * k = (enc x).length + i * k by rw [hk, Nat.add_mul]; omega, List.drop_length_add_append]
omit hk in
theorem fl_app (a b : List α) : fl enc (a ++ b) = fl enc a ++ fl enc b := by simp [fl]
theorem fl_at {l : List α} {i : Nat} {x : α} (hx : l[i]? = some x) (rest : List AV) : ((fl enc l ++ rest).drop (i * k)).take k = enc x := by
  have hi := (List.getElem?_eq_some_iff.1 hx).1
  have he := (List.getElem?_eq_some_iff.1 hx).2
  have hlt : (i + 1) * k ≤ l.length * k := Nat.mul_le_mul_right _ hi
  rw [List.drop_append_of_le_length (by rw [fl_len enc k hk]; rw [Nat.add_mul] at hlt; omega), fl_drop enc k hk, List.drop_eq_getElem_cons hi, he]
  show (enc x ++ fl enc _ ++ rest).take k = _
  rw [List.append_assoc, ← hk x, List.take_left]
theorem fl_set {l : List α} {i : Nat} (hi : i < l.length) (y : α) (rest : List AV) : AH.splice (fl enc l ++ rest) (i * k) (enc y) = fl enc (l.set i y) ++ rest := by
  have hlt : (i + 1) * k ≤ l.length * k := Nat.mul_le_mul_right _ hi
  have e1 : (i + 1) * k = i * k + k := by rw [Nat.add_mul, Nat.one_mul]
  unfold AH.splice
  rw [hk y, ← e1, List.take_append_of_le_length (by rw [fl_len enc k hk]; omega), List.drop_append_of_le_length (by rw [fl_len enc k hk]; omega), fl_take enc k hk, fl_drop enc k hk, List.set_eq_take_append_cons_drop, if_pos hi, fl_app]
  simp [fl]
variable {T : TT} {t el : Nat} {ti te : TI} (ht : T t = some ti) (hd : ti.desc = .slice el) (he : T el = some te) (hz : te.size = k)
include ht hd he hz
theorem loadR {h : AH} {v : AV} {l : List α} {i : Nat} {x : α} (hr : RowC k h v l.length (fl enc l)) (hx : l[i]? = some x) :
    ∃ b cs kk, aIndexAddr T t v (.int .i64 (i : Nat)) = some (.ptr b (i * k)) ∧ h.get b = some (.cells cs kk) ∧ i * k + k ≤ cs.length ∧ (cs.drop (i * k)).take k = enc x := by
  have hi := (List.getElem?_eq_some_iff.1 hx).1
  obtain ⟨b, rest, _, h1, h2, h3⟩ := hr.at_ ht hd he hz hi
  have hlt : (i + 1) * k ≤ l.length * k := Nat.mul_le_mul_right _ hi
  exact ⟨b, _, _, h1, h2, by rw [List.length_append, fl_len enc k hk]; rw [Nat.add_mul] at hlt; omega, fl_at enc k hk hx _⟩
/-- A cell of an element is written. -/
theorem storeC {t1 : Nat} {ti1 : TI} (ht1 : T t1 = some ti1) (hz1 : ti1.size = 1) {h : AH} {v w : AV} {l : List α} {i j : Nat} {x y : α} (hr : RowC k h v l.length (fl enc l)) (hx : l[i]? = some x) (hj : j < k) (hy : enc y = (enc x).set j w) (hw : w.cells = some [w]) (hw1 : w.one = true) :
    ∃ b h2, aIndexAddr T t v (.int .i64 (i : Nat)) = some (.ptr b (i * k)) ∧ aStore T t1 (.ptr b (i * k + j)) w h = some h2 ∧ RowC k h2 v l.length (fl enc (l.set i y)) ∧ h2.next = h.next ∧ (∀ c, offRow v c → h2.get c = h.get c) ∧ (∃ o len cap z ex, v = .sl b o len cap z ex) := by
  have hi := (List.getElem?_eq_some_iff.1 hx).1
  rcases hr with ⟨rfl, h0, _⟩ | ⟨b, cap, ex, rest, rfl, q1, q2, q3, q4⟩
  · omega
  have hlt : (i + 1) * k ≤ l.length * k := Nat.mul_le_mul_right _ hi
  have e1 : (i + 1) * k = i * k + k := by rw [Nat.add_mul, Nat.one_mul]
  have hs := fl_set enc k hk hi y rest
  have hcell : (fl enc l ++ rest).set (i * k + j) w = fl enc (l.set i y) ++ rest := by
    rw [← hs]
    unfold AH.splice
    rw [hk y, hy]
    have hx2 := fl_at enc k hk hx rest
    have hsplit : fl enc l ++ rest = (fl enc l ++ rest).take (i * k) ++ (enc x ++ (fl enc l ++ rest).drop (i * k + k)) := by
      rw [← hx2, ← List.drop_drop, List.take_append_drop, List.take_append_drop]
    have hlen : ((fl enc l ++ rest).take (i * k)).length = i * k := by rw [List.length_take, List.length_append, q1]; omega
    conv => lhs; rw [hsplit]
    rw [List.set_append_right _ _ (by omega), hlen, Nat.add_sub_cancel_left, List.set_append_left _ _ (by rw [hk]; exact hj), List.append_assoc]
  refine ⟨b, h.put b (.cells (fl enc (l.set i y) ++ rest) .own), ?_, ?_, .inr ⟨b, cap, ex, rest, rfl, by rw [fl_len enc k hk, List.length_set], by rw [fl_len enc k hk, List.length_set, ← fl_len enc k hk l]; exact q2, q3, by rw [AH.get_put, if_pos rfl]⟩, rfl, fun c hc => by rw [AH.get_put, if_neg (hc _ _ _ _ _ _ rfl)], _, _, _, _, _, rfl⟩
  · rw [ia_sl ht hd he hz, if_pos ⟨by omega, by omega⟩]
    simp
  · rw [store_1 ht1 hz1 hw hw1 q4 (by rw [List.length_append, q1]; omega), hcell]
end
end Go.AM.Sx
namespace Go.AM.X
open Go Go.AM Go.Proofs Go.AM.Sx
set_option maxHeartbeats 3200000
set_option maxRecDepth 100000
set_option linter.unusedVariables false
theorem V14 {I : Nat → Option (List AV → AH → Rs)} (h32 : I 32 = none) (h14 : I 14 = none) (m p : Nat) (V : Vp) (off : Nat → Prop) (h : AH) (hV : OkV h p V off) (hq : ¬ V.q = 0) :
    ∃ v h2, call F I T (m + 200) 14 [.ptr p 0] h = some (v, h2) ∧ RowC 1 h2 v V.ss.length (V.ss.map fun s => .int .i64 s.c) ∧ Fresh h v ∧ Grow h h2 := by
  obtain ⟨P, dat, js, hP, rfl, rfl⟩ := hV
  obtain ⟨v, h2, k1, k2, k3, k4⟩ := run14 h32 h14 m p P h hP.ok hq
  refine ⟨v, h2, k1, ?_, k3, k4⟩
  have e1 : (vp P dat js).ss = P.ss.map (vs dat) := rfl
  rw [e1, List.length_map, List.map_map]
  exact k2
/-- A piece. -/
structure Pe where
  c : Int
  d : List Int
def Pe.av (x : Pe) : List AV := [.int .i64 x.c, .lst false 1 x.d.length (bytes x.d)]
theorem Pe.len (x : Pe) : x.av.length = 2 := rfl
theorem Pe.one (x : Pe) : x.av.all AV.one = true := by simp [Pe.av, AV.one]
theorem m41 : intMap T 41 = some (some (.int .i64 0)) := by kernel_rfl
end Go.AM.X
