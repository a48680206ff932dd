/- Maps with whole-number keys, by what they answer. Own work. -/
import Derived.Test.YtleefbnanliliaaDoorPhgH
namespace Go.AM.Sx
open Go Go.AM
set_option linter.unusedVariables false
def encp (p : Int × AV) : AV × AV := (.int .i64 p.1, p.2)
def look (l : List (Int × AV)) (k : Int) : Option AV := match l with
  | [] => none
  | p :: l => if k = p.1 then some p.2 else look l k
theorem findA_none {k : Int} : ∀ {l : List (Int × AV)} (i : Nat), look l k = none → findA (.int .i64 k) (l.map encp) i = some none
  | [], i, _ => rfl
  | p :: l, i, h => by
    simp only [look] at h
    by_cases hk : k = p.1
    · rw [if_pos hk] at h; cases h
    · rw [if_neg hk] at h
      have hb : (k == p.1) = false := by simpa using hk
      simp only [List.map_cons, encp, findA, sameA, if_true, hb]
      exact findA_none (i + 1) h
theorem findA_some {k : Int} {v : AV} : ∀ {l : List (Int × AV)} (i : Nat), look l k = some v → ∃ j, findA (.int .i64 k) (l.map encp) i = some (some (i + j, v)) ∧ j < l.length ∧ ∀ w k', look (l.set j (k, w)) k' = if k' = k then some w else look l k'
  | [], i, h => by cases h
  | p :: l, i, h => by
    simp only [look] at h
    by_cases hk : k = p.1
    · rw [if_pos hk] at h
      cases h
      refine ⟨0, ?_, by simp, fun w k' => ?_⟩
      · have hb : (k == p.1) = true := by simpa using hk
        simp only [List.map_cons, encp, findA, sameA, if_true, hb]; rfl
      · simp only [List.set_cons_zero, look]
        by_cases h1 : k' = k
        · rw [if_pos h1, if_pos h1]
        · rw [if_neg h1, if_neg h1, if_neg (by rw [← hk]; exact h1)]
    · rw [if_neg hk] at h
      obtain ⟨j, h1, h2, h3⟩ := findA_some (i + 1) h
      refine ⟨j + 1, ?_, by simp; omega, fun w k' => ?_⟩
      · have hb : (k == p.1) = false := by simpa using hk
        simp only [List.map_cons, encp, findA, sameA, if_true, hb]
        show findA (.int .i64 k) (l.map encp) (i + 1) = _
        rw [h1]; congr 3; omega
      · simp only [List.set_cons_succ, look]
        rw [h3]
        by_cases h4 : k' = p.1
        · rw [if_pos h4, if_pos h4, if_neg (by rw [h4]; exact fun g => hk g.symm)]
        · rw [if_neg h4, if_neg h4]
theorem look_app {k' k : Int} {w : AV} : ∀ {l : List (Int × AV)}, look l k = none → look (l ++ [(k, w)]) k' = if k' = k then some w else look l k'
  | [], _ => by simp only [List.nil_append, look]
  | p :: l, h => by
    simp only [look] at h
    by_cases hk : k = p.1
    · rw [if_pos hk] at h; cases h
    · rw [if_neg hk] at h
      simp only [List.cons_append, look]
      rw [look_app h]
      by_cases h4 : k' = p.1
      · rw [if_pos h4, if_pos h4, if_neg (by rw [h4]; exact fun g => hk g.symm)]
      · rw [if_neg h4, if_neg h4]
/-- A map of the heap, by what it answers. -/
def MapI (h : AH) (b : Nat) (f : Int → Option AV) : Prop := ∃ l, h.get b = some (.map (l.map encp)) ∧ ∀ k, look l k = f k
theorem MapI.new (h : AH) : MapI (h.alloc (.map [])) h.next fun _ => none := ⟨[], by rw [AH.get_alloc, if_pos rfl]; rfl, fun k => rfl⟩
theorem MapI.keep {h h2 : AH} {b : Nat} {f : Int → Option AV} (hm : MapI h b f) (hk : h2.get b = h.get b) : MapI h2 b f := by
  obtain ⟨l, h1, h3⟩ := hm
  exact ⟨l, by rw [hk]; exact h1, h3⟩
theorem MapI.look {T : TT} {t : Nat} {z : AV} {h : AH} {b : Nat} {f : Int → Option AV} (hm : MapI h b f) (ht : intMap T t = some (some z)) (k : Int) : aLookup T t (.mp b) (.int .i64 k) false h = some ((f k).getD z) := by
  obtain ⟨l, h1, h3⟩ := hm
  simp only [aLookup, ht, mapEs, h1]
  rw [← h3 k]
  cases hl : Sx.look l k with
  | none => rw [findA_none 0 hl]; rfl
  | some v =>
    obtain ⟨j, g1, _, _⟩ := findA_some 0 hl
    rw [g1]; rfl
theorem MapI.upd {T : TT} {t : Nat} {z : Option AV} {h : AH} {b : Nat} {f : Int → Option AV} (hm : MapI h b f) (ht : intMap T t = some z) (k : Int) (w : AV) :
    ∃ h2, aMapUpd T t (.mp b) (.int .i64 k) w h = some h2 ∧ MapI h2 b (fun k' => if k' = k then some w else f k') ∧ h2.next = h.next ∧ ∀ c, c ≠ b → h2.get c = h.get c := by
  obtain ⟨l, h1, h3⟩ := hm
  cases hl : Sx.look l k with
  | none =>
    refine ⟨h.put b (.map ((l ++ [(k, w)]).map encp)), ?_, ⟨l ++ [(k, w)], by rw [AH.get_put, if_pos rfl], fun k' => by rw [look_app hl, h3]⟩, rfl, fun c hc => by rw [AH.get_put, if_neg hc]⟩
    simp only [aMapUpd, ht, h1]
    rw [findA_none 0 hl, List.map_append]; rfl
  | some v =>
    obtain ⟨j, g1, g2, g3⟩ := findA_some 0 hl
    refine ⟨h.put b (.map ((l.set j (k, w)).map encp)), ?_, ⟨l.set j (k, w), by rw [AH.get_put, if_pos rfl], fun k' => by rw [g3, h3]⟩, rfl, fun c hc => by rw [AH.get_put, if_neg hc]⟩
    simp only [aMapUpd, ht, h1]
    rw [g1, List.map_set, Nat.zero_add]; rfl
/-- A map of numbers. -/
def MapN (h : AH) (b : Nat) (f : Int → Int) : Prop := ∃ g, MapI h b g ∧ ∀ k, (g k).getD (.int .i64 0) = .int .i64 (f k)
theorem MapN.new (h : AH) : MapN (h.alloc (.map [])) h.next fun _ => 0 := ⟨_, MapI.new h, fun _ => rfl⟩
theorem MapN.keep {h h2 : AH} {b : Nat} {f : Int → Int} (hm : MapN h b f) (hk : h2.get b = h.get b) : MapN h2 b f := by
  obtain ⟨g, h1, h3⟩ := hm
  exact ⟨g, h1.keep hk, h3⟩
theorem MapN.look {T : TT} {t : Nat} {h : AH} {b : Nat} {f : Int → Int} (hm : MapN h b f) (ht : intMap T t = some (some (.int .i64 0))) (k : Int) : aLookup T t (.mp b) (.int .i64 k) false h = some (.int .i64 (f k)) := by
  obtain ⟨g, h1, h3⟩ := hm
  rw [h1.look ht, h3]
theorem MapN.upd {T : TT} {t : Nat} {z : Option AV} {h : AH} {b : Nat} {f : Int → Int} (hm : MapN h b f) (ht : intMap T t = some z) (k n : Int) :
    ∃ h2, aMapUpd T t (.mp b) (.int .i64 k) (.int .i64 n) h = some h2 ∧ MapN h2 b (fun k' => if k' = k then n else f k') ∧ h2.next = h.next ∧ ∀ c, c ≠ b → h2.get c = h.get c := by
  obtain ⟨g, h1, h3⟩ := hm
  obtain ⟨h2, q1, q2, q3, q4⟩ := h1.upd ht k (.int .i64 n)
  refine ⟨h2, q1, ⟨_, q2, fun k' => ?_⟩, q3, q4⟩
  by_cases h5 : k' = k
  · simp only [if_pos h5]; rfl
  · simp only [if_neg h5]; exact h3 k'
/-- A map of truths. -/
def MapB (h : AH) (b : Nat) (f : Int → Bool) : Prop := ∃ g, MapI h b g ∧ ∀ k, (g k).getD (.bool false) = .bool (f k)
theorem MapB.new (h : AH) : MapB (h.alloc (.map [])) h.next fun _ => false := ⟨_, MapI.new h, fun _ => rfl⟩
theorem MapB.keep {h h2 : AH} {b : Nat} {f : Int → Bool} (hm : MapB h b f) (hk : h2.get b = h.get b) : MapB h2 b f := by
  obtain ⟨g, h1, h3⟩ := hm
  exact ⟨g, h1.keep hk, h3⟩
theorem MapB.look {T : TT} {t : Nat} {h : AH} {b : Nat} {f : Int → Bool} (hm : MapB h b f) (ht : intMap T t = some (some (.bool false))) (k : Int) : aLookup T t (.mp b) (.int .i64 k) false h = some (.bool (f k)) := by
  obtain ⟨g, h1, h3⟩ := hm
  rw [h1.look ht, h3]
theorem MapB.upd {T : TT} {t : Nat} {z : Option AV} {h : AH} {b : Nat} {f : Int → Bool} (hm : MapB h b f) (ht : intMap T t = some z) (k : Int) (n : Bool) :
    ∃ h2, aMapUpd T t (.mp b) (.int .i64 k) (.bool n) h = some h2 ∧ MapB h2 b (fun k' => if k' = k then n else f k') ∧ h2.next = h.next ∧ ∀ c, c ≠ b → h2.get c = h.get c := by
  obtain ⟨g, h1, h3⟩ := hm
  obtain ⟨h2, q1, q2, q3, q4⟩ := h1.upd ht k (.bool n)
  refine ⟨h2, q1, ⟨_, q2, fun k' => ?_⟩, q3, q4⟩
  by_cases h5 : k' = k
  · simp only [if_pos h5]; rfl
  · simp only [if_neg h5]; exact h3 k'
end Go.AM.Sx
namespace Go.AM.Sx
open Go Go.AM
set_option linter.unusedVariables false
section
variable {α : Type} (enc : α → List AV) (k : Nat) (hk : ∀ x, (enc x).length = k)
def fl (l : List α) : List AV := l.flatMap enc
include hk
theorem fl_len (l : List α) : (fl enc l).length = l.length * k := by
  induction l with
  | nil => simp [fl]
  | cons x l ih => unfold fl at ih ⊢; rw [List.flatMap_cons, List.length_append, ih, hk, List.length_cons, Nat.add_mul]; omega
theorem fl_drop : ∀ (l : List α) (i : Nat), (fl enc l).drop (i * k) = fl enc (l.drop i)
  | [], i => by simp [fl]
  | x :: l, 0 => by simp
  | x :: l, i + 1 => by
    have ih := fl_drop l i
    unfold fl at ih ⊢
    rw [List.flatMap_cons, List.drop_succ_cons, ← ih, show (i + 1) * k = (enc x).length + i * k by rw [hk, Nat.add_mul]; omega, List.drop_length_add_append]
omit hk in
theorem fl_app (a b : List α) : fl enc (a ++ b) = fl enc a ++ fl enc b := by simp [fl]
theorem fl_at {l : List α} {i : Nat} {x : α} (hx : l[i]? = some x) (rest : List AV) : ((fl enc l ++ rest).drop (i * k)).take k = enc x := by
  have hi := (List.getElem?_eq_some_iff.1 hx).1
  have he := (List.getElem?_eq_some_iff.1 hx).2
  have hlt : (i + 1) * k ≤ l.length * k := Nat.mul_le_mul_right _ hi
  rw [List.drop_append_of_le_length (by rw [fl_len enc k hk]; rw [Nat.add_mul] at hlt; omega), fl_drop enc k hk, List.drop_eq_getElem_cons hi, he]
  show (enc x ++ fl enc _ ++ rest).take k = _
  rw [List.append_assoc, ← hk x, List.take_left]
variable {T : TT} {t el : Nat} {ti te : TI} (ht : T t = some ti) (hd : ti.desc = .slice el) (he : T el = some te) (hz : te.size = k)
include ht hd he hz
theorem loadR {h : AH} {v : AV} {l : List α} {i : Nat} {x : α} (hr : RowC k h v l.length (fl enc l)) (hx : l[i]? = some x) :
    ∃ b cs kk, aIndexAddr T t v (.int .i64 (i : Nat)) = some (.ptr b (i * k)) ∧ h.get b = some (.cells cs kk) ∧ i * k + k ≤ cs.length ∧ (cs.drop (i * k)).take k = enc x := by
  have hi := (List.getElem?_eq_some_iff.1 hx).1
  obtain ⟨b, rest, _, h1, h2, h3⟩ := hr.at_ ht hd he hz hi
  have hlt : (i + 1) * k ≤ l.length * k := Nat.mul_le_mul_right _ hi
  exact ⟨b, _, _, h1, h2, by rw [List.length_append, fl_len enc k hk]; rw [Nat.add_mul] at hlt; omega, fl_at enc k hk hx _⟩
end
end Go.AM.Sx
namespace Go.AM.X
open Go Go.AM Go.Proofs Go.AM.Sx
set_option maxHeartbeats 3200000
set_option maxRecDepth 100000
set_option linter.unusedVariables false
noncomputable def tt50 : TI := (T 50).getD ⟨.bool, 0, 0, [], false, [], [], none⟩
theorem T50 : T 50 = some tt50 := by kernel_rfl
theorem d50 : tt50.desc = .slice 56 := by kernel_rfl
noncomputable def tt56 : TI := (T 56).getD ⟨.bool, 0, 0, [], false, [], [], none⟩
theorem T56 : T 56 = some tt56 := by kernel_rfl
theorem d56 : tt56.desc = .struct (fieldsD tt56.desc).toArray := by kernel_rfl
theorem s56 : tt56.size = 2 := by kernel_rfl
theorem b56 : tt56.bytes = 32 := by kernel_rfl
theorem a56 : tt56.agg = true := by kernel_rfl
theorem z56 : tt56.zero = [.int .i64 0, .nils] := by kernel_rfl
theorem p56_0 : tt56.places[0]? = some (0, 1, false) := by kernel_rfl
theorem p56_1 : tt56.places[1]? = some (1, 1, false) := by kernel_rfl
theorem F22 : F 22 = some { body := (Tryd.f22.body.getD .skip), results := Tryd.f22.results.toList, rf := false } := by kernel_rfl
theorem R22 : regsOk T (Tryd.f22.body.getD .skip) = true := by kernel_rfl
theorem V14 {I : Nat → Option (List AV → AH → Rs)} (h32 : I 32 = none) (h14 : I 14 = none) (m p : Nat) (V : Vp) (off : Nat → Prop) (h : AH) (hV : OkV h p V off) (hq : ¬ V.q = 0) :
    ∃ v h2, call F I T (m + 200) 14 [.ptr p 0] h = some (v, h2) ∧ RowC 1 h2 v V.ss.length (V.ss.map fun s => .int .i64 s.c) ∧ Fresh h v ∧ Grow h h2 := by
  obtain ⟨P, dat, js, hP, rfl, rfl⟩ := hV
  obtain ⟨v, h2, k1, k2, k3, k4⟩ := run14 h32 h14 m p P h hP.ok hq
  refine ⟨v, h2, k1, ?_, k3, k4⟩
  have e1 : (vp P dat js).ss = P.ss.map (vs dat) := rfl
  rw [e1, List.length_map, List.map_map]
  exact k2
/-- A piece. -/
structure Pe where
  c : Int
  d : List Int
def Pe.av (x : Pe) : List AV := [.int .i64 x.c, .lst false 1 x.d.length (bytes x.d)]
theorem Pe.len (x : Pe) : x.av.length = 2 := rfl
theorem Pe.one (x : Pe) : x.av.all AV.one = true := by simp [Pe.av, AV.one]
theorem m41 : intMap T 41 = some (some (.int .i64 0)) := by kernel_rfl
theorem m94 : intMap T 94 = some (some (.bool false)) := by kernel_rfl
def leftP (f : List Int) (now : List Pe) : List Pe := now.filter fun x => decide (x.c ∈ f)
def seqP (f : List Int) (now : List Pe) (sq : Int → Int) (k : Int) : Int := if now.any (fun x => decide (x.c = k)) = true ∧ k ∉ f then 0 else sq k
/-- All but a block is as it was. -/
def Chg (h h2 : AH) (b : Nat) : Prop := h.next ≤ h2.next ∧ ∀ c, c < h.next → c ≠ b → h2.get c = h.get c
theorem push_chg {T : TT} {t el : Nat} {ti te : TI} {sz n b : Nat} {h0 h : AH} {v : AV} {cs new : List AV} (ht : T t = some ti) (hd : ti.desc = .slice el) (he : T el = some te) (hz : te.size = sz) (hs0 : 0 < sz) (hb : 0 < te.bytes) (hr : RowC sz h v n cs) (hf : Fresh h0 v) (hg : Chg h0 h b)
    (hl : new.length = sz) (hone : new.all AV.one = true) (hsm : (n + 1) * te.bytes < maxBytes) :
    ∃ v' h2, aAppend T t t v (.sl h.next 0 1 1 sz true) (h.alloc (.cells new .own)) = some (v', h2) ∧ RowC sz h2 v' (n + 1) (cs ++ new) ∧ Fresh h0 v' ∧ Chg h0 h2 b ∧ h.next ≤ h2.next ∧ ∀ c, c < h0.next → h2.get c = h.get c := by
  obtain ⟨v', h2, q1, q2, q3, q4, q5⟩ := hr.push ht hd he hz hs0 hb hl hone hsm
  have g1 := hg.1
  have k : ∀ c, c < h0.next → h2.get c = h.get c := fun c hc => q4 c (by omega) (hf.off hc)
  refine ⟨v', h2, q1, q2, fun b o l k z x e => ?_, ⟨by omega, fun c hc hn => by rw [k c hc, hg.2 c hc hn]⟩, by omega, k⟩
  rcases q5 _ _ _ _ _ _ e with h | ⟨_, _, _, _, _, h⟩
  · omega
  · exact hf _ _ _ _ _ _ h
theorem loadPe {h : AH} {v : AV} {l : List Pe} {i : Nat} {x : Pe} (hr : RowC 2 h v l.length (fl Pe.av l)) (hx : l[i]? = some x) :
    ∃ b cs kk, aIndexAddr T 50 v (.int .i64 (i : Nat)) = some (.ptr b (i * 2)) ∧ h.get b = some (.cells cs kk) ∧ i * 2 + 2 ≤ cs.length ∧ (cs.drop (i * 2)).take 2 = [.int .i64 x.c, .lst false 1 x.d.length (bytes x.d)] ∧ cs[i * 2]? = some (.int .i64 x.c) ∧ cs[i * 2 + 1]? = some (.lst false 1 x.d.length (bytes x.d)) := by
  obtain ⟨b, cs, kk, h1, h2, h3, h4⟩ := loadR Pe.av 2 Pe.len T50 d50 T56 s56 hr hx
  have w5 := congrArg (fun l => l[0]?) h4
  have w6 := congrArg (fun l => l[1]?) h4
  simp [List.getElem?_drop, Pe.av] at w5 w6
  exact ⟨b, cs, kk, h1, h2, h3, h4, w5, w6⟩
theorem run22 {I : Nat → Option (List AV → AH → Rs)} (h32 : I 32 = none) (h14 : I 14 = none) (h22 : I 22 = none) (m p b : Nat) (V : Vp) (off : Nat → Prop) (now : List Pe) (nv : AV) (sq : Int → Int) (h : AH) (hV : OkV h p V off) (hq : ¬ V.q = 0) (hn : RowC 2 h nv now.length (fl Pe.av now)) (hm : MapN h b sq) (hb : b < h.next)
    (hl : V.ss.length ≤ 200 ∧ now.length ≤ m ∧ now.length ≤ 1000000) :
    ∃ v h2, call F I T (m + 260) 22 [.ptr p 0, nv, .mp b] h = some (v, h2) ∧ RowC 2 h2 v (leftP (V.ss.map Vs.c) now).length (fl Pe.av (leftP (V.ss.map Vs.c) now)) ∧ Fresh h v ∧ MapN h2 b (seqP (V.ss.map Vs.c) now sq) ∧ Chg h h2 b := by
  obtain ⟨v7, h1, k14, hr7, hf7, g1⟩ := V14 h32 h14 (m + 59) p V off h hV hq
  have g1n := g1.1
  have hlen7 : ∀ h, aLen T 31 v7 h = some (.int .i64 (V.ss.length : Nat)) := fun h => hr7.len T31 d31
  have hnb : ∀ b' o l k z x, nv = .sl b' o l k z x → b' ≠ b := fun b' o l k z x e he => by
    subst he
    obtain ⟨g, ⟨l', q1, _⟩, _⟩ := hm
    rcases hn with ⟨e2, _⟩ | ⟨b2, cap, ex, rest, e2, _, _, _, q2⟩
    · rw [e2] at e; cases e
    · rw [e2] at e; cases e; rw [q1] at q2; cases q2
  have hn1 := hn.grow g1
  have hlenn : ∀ h, aLen T 50 nv h = some (.int .i64 (now.length : Nat)) := fun h => hn.len T50 d50
  obtain ⟨fs, hfs⟩ : ∃ fs, fs = V.ss.map Vs.c := ⟨_, rfl⟩
  have hfl : fs.length = V.ss.length := by rw [hfs, List.length_map]
  have hr7' : RowC 1 h1 v7 V.ss.length (fs.map fun c => .int .i64 c) := by rw [hfs, List.map_map]; exact hr7
  rw [← hfs]
  have hm1 : MapN h1 b sq := hm.keep (g1.2 _ hb)
  rw [call_F (by decide) h22 F22 rfl R22]; simp only [Tryd.f22, Option.getD]
  simp +contextual (maxSteps := 3000000) only [↓code_seq, ↓code_region, ↓code_block, ↓code_loop, ↓ops_nil, ↓ops_cons, run_none, ↓run0_v, ↓run0_r, ↓seqK_normal, put_same, put_ne, env0_at, ev_tmp, ev_const, ev_func, oc_int, oc_nils, o_move, o_assign, o_call, g_none, Option.getD_some, not_false_eq_true, reduceCtorEq, List.getElem?_cons_zero, List.map_cons, List.map_nil, List.append_nil, List.nil_append, ne_eq, o_makeMap, k14, callV_fn (g := 14) (by decide)]
  refine iterL_wp (Q := fun r => ∃ v h2, r = some (v, h2) ∧ RowC 2 h2 v (leftP fs now).length (fl Pe.av (leftP fs now)) ∧ Fresh h v ∧ MapN h2 b (seqP fs now sq) ∧ Chg h h2 b) (N := V.ss.length) (Inv := fun k e h' => ∃ i, k + i = V.ss.length ∧ MapB h' h1.next (fun k => decide (k ∈ fs.take i)) ∧ Grow h1 h' ∧ h'.next = h1.next + 1 ∧ i ≤ V.ss.length ∧ e 1 = nv ∧ e 2 = .mp b ∧ e 7 = v7 ∧ e 8 = .mp h1.next ∧ e 9 = .int .i64 (i : Nat)) ?_ ?_ (by omega)
  · rintro k e h' K' ⟨i, hk, hM, hg, hnx, hil, e1, e2, e7, e8, e9⟩ hnext hexit
    by_cases hi : i < V.ss.length
    · have c1 : (i : Int) < (V.ss.length : Int) := by omega
      obtain ⟨c, hc⟩ : ∃ c, fs[i]? = some c := ⟨fs[i]'(by omega), List.getElem?_eq_getElem (by omega)⟩
      obtain ⟨b7, rest, _, y1, y2, y3⟩ := (hr7'.grow hg).at_ T31 d31 T3 s3 hi
      rw [Nat.mul_one] at y1
      have y4 : ((fs.map fun c => AV.int .i64 c) ++ rest)[i]? = some (.int .i64 c) := by
        rw [List.getElem?_append_left (by rw [List.length_map]; omega), List.getElem?_map, hc]; rfl
      have c7 : IntKind.i64.wrap ((i : Int) + 1) = ((i + 1 : Nat) : Int) := by rw [wrap_i64 (by omega) (by omega)]; rfl
      obtain ⟨h2, q1, q2, q3, q4⟩ := hM.upd m94 c true
      have q2' : MapB h2 h1.next (fun k => decide (k ∈ fs.take (i + 1))) := by
        have : (fun k => if k = c then true else decide (k ∈ fs.take i)) = fun k => decide (k ∈ fs.take (i + 1)) := funext fun k => by
          rw [List.take_add_one, hc]
          by_cases hk : k = c
          · simp [hk]
          · simp [hk]
        rw [← this]; exact q2
      simp +contextual (maxSteps := 3000000) only [↓code_skip, ↓code_seq, ↓code_region, ↓code_cond, ↓code_block, aCond_bool, ↓ops_nil, ↓ops_cons, run_none, ↓run0_v, ↓run0_h, ↓seqK_normal, ↓blkK_normal, put_same, put_ne, put_none, ev_tmp, ev_const, oc_int, oc_bool, o_move, o_assign, o_bin, o_len, o_load, o_indexAddr, g_none, bin_add, bin_lss, decide_eq_true_eq, ↓reduceIte, Nat.reduceEqDiff, not_false_eq_true, ne_eq, load_p1 T3 a3, loadc_def, o_mapUpdate, e7, e8, e9, c1, hlen7, y1, y2, y4, q1, c7]
      refine hnext (k - 1) _ _ (by omega) ⟨i + 1, by omega, ?_, ?_, ?_, ?_, ?_, ?_, ?_, ?_, ?_⟩
      · exact q2'
      · exact ⟨by omega, fun c hc => by rw [q4 c (by omega)]; exact hg.2 c hc⟩
      · omega
      · omega
      · simp only [put_ne, Nat.reduceEqDiff, not_false_eq_true, ne_eq, e1]
      · simp only [put_ne, Nat.reduceEqDiff, not_false_eq_true, ne_eq, e2]
      · simp only [put_ne, Nat.reduceEqDiff, not_false_eq_true, ne_eq, e7]
      · simp only [put_ne, Nat.reduceEqDiff, not_false_eq_true, ne_eq, e8]
      · simp only [put_same]
    · have c1 : ¬ (i : Int) < (V.ss.length : Int) := by omega
      rw [List.take_of_length_le (by omega)] at hM
      obtain ⟨H, hH⟩ : ∃ H, H = h' := ⟨_, rfl⟩
      have hMH := hM
      have hgH := hg
      have hnH := hnx
      rw [← hH] at hMH hgH hnH
      simp +contextual (maxSteps := 3000000) only [↓code_seq, ↓code_region, ↓code_cond, ↓code_exit, aCond_bool, ↓ops_nil, ↓ops_cons, run_none, ↓run0_v, ↓seqK_normal, ↓seqK_exit, put_same, put_ne, ev_tmp, o_move, o_bin, o_len, g_none, bin_lss, decide_eq_true_eq, ↓reduceIte, Nat.reduceEqDiff, not_false_eq_true, ne_eq, e7, e9, c1, hlen7]
      refine hexit _ _ _ (by simp) ?_
      simp +contextual (maxSteps := 3000000) only [↓code_seq, ↓code_region, ↓code_block, ↓code_loop, ↓ops_nil, ↓ops_cons, run_none, ↓run0_v, ↓seqK_normal, ↓blkK_exit, ev_const, oc_int, oc_nils, o_assign, g_none, ↓reduceIte]
      refine iterL_wp (Q := fun r => ∃ v h2, r = some (v, h2) ∧ RowC 2 h2 v (leftP fs now).length (fl Pe.av (leftP fs now)) ∧ Fresh h v ∧ MapN h2 b (seqP fs now sq) ∧ Chg h h2 b) (N := now.length) (Inv := fun k e h' => ∃ j v, k + j = now.length ∧ RowC 2 h' v (leftP fs (now.take j)).length (fl Pe.av (leftP fs (now.take j))) ∧ Fresh H v ∧ MapN h' b (seqP fs (now.take j) sq) ∧ Chg H h' b ∧ j ≤ now.length ∧ e 1 = nv ∧ e 2 = .mp b ∧ e 8 = .mp h1.next ∧ e 10 = v ∧ e 11 = .int .i64 (j : Nat)) ?_ ?_ (by omega)
      · rintro k e h' K' ⟨j, v, hk, hr, hf, hS, hC, hjl, e1, e2, e8, e10, e11⟩ hnext hexit
        have hC1 := hC.1
        have hMj : MapB h' h1.next (fun k => decide (k ∈ fs)) := hMH.keep (hC.2 _ (by omega) (by omega))
        have hnj : RowC 2 h' nv now.length (fl Pe.av now) := hn.keep (by omega) fun b' o l k z x e => by
          have h1' := hn.lt e
          rw [hC.2 b' (by omega) (hnb _ _ _ _ _ _ e), hgH.2 b' (by omega), g1.2 b' h1']
        by_cases hj : j < now.length
        · have c2 : (j : Int) < (now.length : Int) := by omega
          obtain ⟨x, hx⟩ : ∃ x, now[j]? = some x := ⟨now[j], List.getElem?_eq_getElem hj⟩
          obtain ⟨b5, cs5, bk5, y1, y2, y3, y4, y5, y6⟩ := loadPe hnj hx
          have y5' : cs5[j * 2 + 0]? = some (.int .i64 x.c) := y5
          have c7 : IntKind.i64.wrap ((j : Int) + 1) = ((j + 1 : Nat) : Int) := by rw [wrap_i64 (by omega) (by omega)]; rfl
          have hlk := hMj.look m94 x.c
          by_cases hk : x.c ∈ fs
          · rw [decide_eq_true hk] at hlk
            have hll : (leftP fs (now.take j)).length ≤ now.length := by
              have := List.length_filter_le (fun x : Pe => decide (x.c ∈ fs)) (now.take j)
              rw [List.length_take] at this
              unfold leftP; omega
            have htk : leftP fs (now.take (j + 1)) = leftP fs (now.take j) ++ [x] := by unfold leftP; rw [List.take_add_one, hx]; simp [hk]
            have hsq : seqP fs (now.take (j + 1)) sq = seqP fs (now.take j) sq := funext fun k => by
              unfold seqP
              rw [List.take_add_one, hx]
              by_cases hxk : x.c = k
              · rw [hxk] at hk; simp [hk]
              · simp [hxk]
            obtain ⟨v', h2, q1, q2, q3, q4, q5, q6⟩ := push_chg (h0 := H) (new := [.int .i64 x.c, .lst false 1 x.d.length (bytes x.d)]) T50 d50 T56 s56 (by decide) (by rw [b56]; decide) hr hf hC rfl (Pe.one x) (by rw [b56]; simp [maxBytes]; omega)
            have hcs : fl Pe.av (leftP fs (now.take j)) ++ [.int .i64 x.c, .lst false 1 x.d.length (bytes x.d)] = fl Pe.av (leftP fs (now.take (j + 1))) := by rw [htk, fl_app]; rfl
            have hln : (leftP fs (now.take j)).length + 1 = (leftP fs (now.take (j + 1))).length := by rw [htk]; simp
            rw [hcs, hln] at q2
            simp +contextual (maxSteps := 3000000) only [↓code_skip, ↓code_seq, ↓code_region, ↓code_cond, ↓code_block, aCond_bool, ↓ops_nil, ↓ops_cons, run_none, ↓run0_v, ↓run0_r, ↓seqK_normal, ↓blkK_normal, put_same, put_ne, ev_tmp, ev_const, oc_int, o_move, o_assign, o_bin, o_len, o_buildSlice, o_load, o_fieldAddr, o_indexAddr, o_append, g_none, bin_add, bin_lss, Option.bind_some, Option.map_some, decide_eq_true_eq, ↓reduceIte, Nat.reduceEqDiff, not_false_eq_true, Nat.reduceAdd, Nat.reduceMul, Nat.succ_ne_self, List.map_cons, List.map_nil, List.append_nil, List.nil_append, and_true, Nat.le_refl, ne_eq, load_p1 T3 a3, loadc_def, fa_ptr T56 p56_0 (by decide), o_lookup, load_pA T56 a56, s56, loadn_def, buildSl T50 d50 T56 (n := 1) (by rw [s56]; decide), z56, parts_eq, fillA, AV.cells, AH.splice, List.take_zero, List.drop_succ_cons, List.drop_nil, List.length_cons, List.length_nil, repl, List.length_cons, List.length_nil, List.take_zero, Nat.zero_add, Nat.add_zero, e1, e8, e10, e11, c2, hlenn, hlk, y1, y2, y3, y4, y5, q1, c7]
            refine hnext (k - 1) _ _ (by omega) ⟨j + 1, v', by omega, ?_, ?_, ?_, ?_, ?_, ?_, ?_, ?_, ?_, ?_⟩
            · exact q2
            · exact q3
            · (rw [hsq]; exact hS.keep (q6 b (by omega)))
            · exact q4
            · omega
            · simp only [put_ne, Nat.reduceEqDiff, not_false_eq_true, ne_eq, e1]
            · simp only [put_ne, Nat.reduceEqDiff, not_false_eq_true, ne_eq, e2]
            · simp only [put_ne, Nat.reduceEqDiff, not_false_eq_true, ne_eq, e8]
            · simp only [put_same, put_ne, Nat.reduceEqDiff, not_false_eq_true, ne_eq]
            · simp only [put_same]
          · rw [decide_eq_false hk] at hlk
            have htk : leftP fs (now.take (j + 1)) = leftP fs (now.take j) := by unfold leftP; rw [List.take_add_one, hx]; simp [hk]
            obtain ⟨h2, q1, q2, q3, q4⟩ := hS.upd m41 x.c 0
            have hsq : (fun k => if k = x.c then 0 else seqP fs (now.take j) sq k) = seqP fs (now.take (j + 1)) sq := funext fun k => by
              unfold seqP
              rw [List.take_add_one, hx]
              by_cases hxk : k = x.c
              · rw [hxk]; simp [hk]
              · have : ¬ x.c = k := fun g => hxk g.symm
                simp [hxk, this]
            rw [hsq] at q2
            have hvb : ∀ b' o l k z x, v = .sl b' o l k z x → h2.get b' = h'.get b' := fun b' o l k z x e => q4 b' (by have := hf _ _ _ _ _ _ e; omega)
            simp +contextual (maxSteps := 3000000) only [↓code_skip, ↓code_seq, ↓code_region, ↓code_cond, ↓code_block, aCond_bool, ↓ops_nil, ↓ops_cons, run_none, ↓run0_v, ↓run0_h, ↓seqK_normal, ↓blkK_normal, put_same, put_ne, put_none, ev_tmp, ev_const, oc_int, o_move, o_assign, o_bin, o_len, o_load, o_fieldAddr, o_indexAddr, g_none, bin_add, bin_lss, decide_eq_true_eq, ↓reduceIte, Nat.reduceEqDiff, not_false_eq_true, Bool.false_eq_true, ne_eq, load_p1 T3 a3, loadc_def, o_mapUpdate, fa_ptr T56 p56_0 (by decide), o_lookup, e1, e2, e8, e11, c2, hlenn, hlk, y1, y2, y5', q1, c7]
            refine hnext (k - 1) _ _ (by omega) ⟨j + 1, v, by omega, ?_, ?_, ?_, ?_, ?_, ?_, ?_, ?_, ?_, ?_⟩
            · (rw [htk]; exact hr.keep (by omega) hvb)
            · exact hf
            · exact q2
            · exact ⟨by omega, fun c hc hn => by rw [q4 c hn, hC.2 c hc hn]⟩
            · omega
            · simp only [put_ne, Nat.reduceEqDiff, not_false_eq_true, ne_eq, e1]
            · simp only [put_ne, Nat.reduceEqDiff, not_false_eq_true, ne_eq, e2]
            · simp only [put_ne, Nat.reduceEqDiff, not_false_eq_true, ne_eq, e8]
            · simp only [put_ne, Nat.reduceEqDiff, not_false_eq_true, ne_eq, e10]
            · simp only [put_same]
        · have c2 : ¬ (j : Int) < (now.length : Int) := by omega
          rw [List.take_of_length_le (by omega)] at hr hS
          simp +contextual (maxSteps := 3000000) only [↓code_seq, ↓code_region, ↓code_cond, ↓code_exit, aCond_bool, ↓ops_nil, ↓ops_cons, run_none, ↓run0_v, ↓seqK_normal, ↓seqK_exit, put_same, put_ne, ev_tmp, o_move, o_bin, o_len, g_none, bin_lss, decide_eq_true_eq, ↓reduceIte, Nat.reduceEqDiff, not_false_eq_true, ne_eq, e1, e11, c2, hlenn]
          refine hexit _ _ _ (by simp) ⟨v, h', ?_, hr, fun b' o l k z x e => by have := hf _ _ _ _ _ _ e; omega, hS, by omega, fun c hc hn => by rw [hC.2 c (by omega) hn, hgH.2 c (by omega), g1.2 c hc]⟩
          simp +contextual (maxSteps := 3000000) only [↓code_seq, ↓code_region, ↓code_ret, ↓ops_nil, ↓ops_cons, run_none, ↓run0_v, ↓seqK_normal, ↓blkK_exit, ↓retK_ret, put_same, put_ne, ev_tmp, o_move, o_assign, g_none, resultsOf, oneOrAll, Option.map_some, ↓reduceIte, Nat.reduceEqDiff, not_false_eq_true, ne_eq, e10]
      · refine ⟨0, .nils, by omega, ?_, ?_, ?_, ?_, ?_, ?_, ?_, ?_, ?_, ?_⟩
        · exact RowC.nil _ _
        · (intro b o l k z x e; cases e)
        · (rw [← hH]; exact hm1.keep (hgH.2 b (by omega)))
        · (rw [hH]; exact ⟨Nat.le_refl _, fun _ _ _ => rfl⟩)
        · omega
        · simp only [put_ne, Nat.reduceEqDiff, not_false_eq_true, ne_eq, e1]
        · simp only [put_ne, Nat.reduceEqDiff, not_false_eq_true, ne_eq, e2]
        · simp only [put_ne, Nat.reduceEqDiff, not_false_eq_true, ne_eq, e8]
        · simp only [put_same, put_ne, Nat.reduceEqDiff, not_false_eq_true, ne_eq]
        · simp only [put_same]; rfl
  · refine ⟨0, by omega, ?_, ?_, ?_, ?_, ?_, ?_, ?_, ?_, ?_⟩
    · (rw [show (fun k => decide (k ∈ fs.take 0)) = fun _ => false from funext fun k => by simp]; exact MapB.new h1)
    · exact Grow.alloc _ _
    · rfl
    · omega
    · simp only [put_ne, env0_at, Option.getD_some, Nat.reduceEqDiff, not_false_eq_true, List.getElem?_cons_zero, List.getElem?_cons_succ, ne_eq]
    · simp only [put_ne, env0_at, Option.getD_some, Nat.reduceEqDiff, not_false_eq_true, List.getElem?_cons_zero, List.getElem?_cons_succ, ne_eq]
    · simp only [put_same, put_ne, Nat.reduceEqDiff, not_false_eq_true, ne_eq]
    · simp only [put_same, put_ne, Nat.reduceEqDiff, not_false_eq_true, ne_eq]
    · simp only [put_same]; rfl
end Go.AM.X
namespace Go.AM.X
open Go Go.AM Go.Proofs Go.AM.Sx
set_option maxHeartbeats 3200000
set_option maxRecDepth 100000
set_option linter.unusedVariables false
theorem F23 : F 23 = some { body := (Tryd.f23.body.getD .skip), results := Tryd.f23.results.toList, rf := false } := by kernel_rfl
theorem R23 : regsOk T (Tryd.f23.body.getD .skip) = true := by kernel_rfl
theorem run23 {I : Nat → Option (List AV → AH → Rs)} (h23 : I 23 = none) (m : Nat) (v w : AV) (J K : List Jb) (h0 h1 h : AH) (hJ : JR h0 h v J) (hK : JR h1 h w K) (hJK : J.map jv = K.map jv) (hn : J.length ≤ m ∧ J.length ≤ 1000000) : call F I T (m + 20) 23 [v, w] h = some (.bool true, h) := by
  have hl : K.length = J.length := by have := congrArg List.length hJK; rw [List.length_map, List.length_map] at this; exact this.symm
  have l1 : ∀ h, aLen T 51 v h = some (.int .i64 (J.length : Nat)) := fun h => hJ.r.len T51 d51
  have l2 : ∀ h, aLen T 51 w h = some (.int .i64 (J.length : Nat)) := fun h => by rw [← hl]; exact hK.r.len T51 d51
  rw [call_F (by decide) h23 F23 rfl R23]; simp only [Tryd.f23, Option.getD]
  simp +contextual (maxSteps := 3000000) only [↓code_skip, ↓code_seq, ↓code_region, ↓code_cond, ↓code_block, ↓code_loop, aCond_bool, ↓ops_nil, ↓ops_cons, run_none, ↓run0_v, ↓seqK_normal, put_same, put_ne, env0_at, ev_tmp, ev_const, oc_int, oc_bool, o_move, o_assign, o_bin, o_len, g_none, bin_neq, Option.getD_some, ↓reduceIte, Nat.reduceEqDiff, not_false_eq_true, reduceCtorEq, List.getElem?_cons_zero, List.getElem?_cons_succ, Bool.false_eq_true, Bool.not_true, ne_eq, l1, l2, decide_true]
  refine iterL_wp (Q := fun r => r = some (.bool true, h)) (N := J.length) (Inv := fun k e h' => ∃ i, k + i = J.length ∧ h' = h ∧ i ≤ J.length ∧ e 0 = v ∧ e 1 = w ∧ e 5 = .int .i64 (i : Nat)) ?_ ?_ (by omega)
  · rintro k e h' K' ⟨i, hk, hh, hil, e0, e1, e5⟩ hnext hexit
    subst hh
    by_cases hi : i < J.length
    · have c1 : (i : Int) < (J.length : Int) := by omega
      obtain ⟨a, ha⟩ : ∃ a, J[i]? = some a := ⟨J[i], List.getElem?_eq_getElem hi⟩
      obtain ⟨b, hb⟩ : ∃ b, K[i]? = some b := ⟨K[i]'(by omega), List.getElem?_eq_getElem (by omega)⟩
      have hab : jv a = jv b := by
        have := congrArg (fun l => l[i]?) hJK
        simp only [List.getElem?_map, ha, hb, Option.map_some] at this
        simpa using this
      have hc : b.c = a.c := (congrArg Prod.fst hab).symm
      have hd : b.bs = a.bs := (congrArg Prod.snd hab).symm
      obtain ⟨b1, x1, y1, g1, g2, g3, g4⟩ := loadJ hJ.r ha
      obtain ⟨b2, x2, y2, q1, q2, q3, q4⟩ := loadJ hK.r hb
      have g5 := take2 g4
      have q5 := take2 q4
      rw [hc] at q5
      have s1' := dat_str (hJ.d a (List.mem_of_getElem? ha))
      have s2' := dat_str (hK.d b (List.mem_of_getElem? hb))
      rw [hd] at s2'
      have g6 : x1[i * 2 + 0]? = some (.int .i64 a.c) := g5.1
      have q6 : x2[i * 2 + 0]? = some (.int .i64 a.c) := q5.1
      have c7 : IntKind.i64.wrap ((i : Int) + 1) = ((i + 1 : Nat) : Int) := by rw [wrap_i64 (by omega) (by omega)]; rfl
      simp +contextual (maxSteps := 3000000) only [↓code_skip, ↓code_seq, ↓code_region, ↓code_cond, ↓code_block, aCond_bool, ↓ops_nil, ↓ops_cons, run_none, run_someF, ↓run0_v, ↓run0_r, ↓seqK_normal, ↓blkK_normal, put_same, put_ne, ev_tmp, ev_const, oc_int, oc_bool, o_move, o_assign, o_pick, o_bin, o_len, o_load, o_convert, o_fieldAddr, o_indexAddr, g_none, g_some, pick_bool, bin_add, bin_neq, bin_lss, str_neq, Option.bind_some, ↓reduceIte, Nat.reduceEqDiff, not_false_eq_true, reduceCtorEq, List.getElem?_cons_zero, List.getElem?_cons_succ, List.getElem?_toArray, Bool.false_eq_true, Bool.not_true, ne_eq, fa_ptr T58 p58_0 (by decide), load_p1 T3 a3, loadc_def, fa_ptr T58 p58_1 (by decide), load_p1 T48 a48, e0, e1, e5, c1, l1, g1, g2, g5.2, g6, q1, q2, q5.2, q6, s1', s2', decide_true, c7]
      refine hnext (k - 1) _ _ (by omega) ⟨i + 1, by omega, ?_, ?_, ?_, ?_, ?_⟩
      · rfl
      · omega
      · simp only [put_ne, not_false_eq_true, reduceCtorEq, ne_eq, e0]
      · simp only [put_ne, Nat.reduceEqDiff, not_false_eq_true, ne_eq, e1]
      · simp only [put_same]
    · have c1 : ¬ (i : Int) < (J.length : Int) := by omega
      simp +contextual (maxSteps := 3000000) only [↓code_seq, ↓code_region, ↓code_cond, ↓code_exit, aCond_bool, ↓ops_nil, ↓ops_cons, run_none, ↓run0_v, ↓seqK_normal, ↓seqK_exit, put_same, put_ne, ev_tmp, o_move, o_bin, o_len, g_none, bin_lss, decide_eq_true_eq, ↓reduceIte, Nat.reduceEqDiff, not_false_eq_true, reduceCtorEq, ne_eq, e0, e5, c1, l1]
      refine hexit _ _ _ (by simp) ?_
      simp +contextual (maxSteps := 3000000) only [↓code_seq, ↓code_region, ↓code_ret, ↓ops_nil, ↓ops_cons, run_none, ↓run0_v, ↓seqK_normal, ↓blkK_exit, ↓retK_ret, put_same, ev_const, oc_bool, o_assign, g_none, resultsOf, oneOrAll, Option.map_some, ↓reduceIte]
  · refine ⟨0, by omega, ?_, ?_, ?_, ?_, ?_⟩
    · rfl
    · omega
    · simp only [put_ne, env0_at, Option.getD_some, not_false_eq_true, reduceCtorEq, List.getElem?_cons_zero, ne_eq]
    · simp only [put_ne, env0_at, Option.getD_some, Nat.reduceEqDiff, not_false_eq_true, List.getElem?_cons_zero, List.getElem?_cons_succ, ne_eq]
    · simp only [put_same]; rfl
end Go.AM.X
namespace Go.AM.X
open Go Go.AM Go.Proofs Go.AM.Sx
set_option maxHeartbeats 1600000
set_option linter.unusedVariables false
def datOf (c : Int) (now : List Pe) : List Int := (now.filter fun x => decide (x.c = c)).flatMap Pe.d
/-- Behind an act, before those that are not served are forgotten. -/
structure MI (n : Nat) (V : Vp) (now : List Pe) (sq : Int → Int) (wt : List (Int × List Int)) : Prop where
  q : V.q = 20
  r : 1 ≤ V.r ∧ V.r ≤ 5
  js : V.js = wt
  ss : ∀ s ∈ V.ss, s.q = sq s.c ∧ (0 ≤ s.q ∧ s.q ≤ 255) ∧ s.d = datOf s.c now ∧ s.d.length ≤ 5000 ∧ (0 ≤ s.s ∧ s.s ≤ 1000) ∧ (s.q ≠ 0 → ∃ x ∈ now, x.c = s.c)
  mid : ∀ c, sq c ≠ 0 → c ∈ V.ss.map Vs.c ∨ ∃ x ∈ now, x.c = c
  nd : (V.ws.map Wt.c ++ V.ss.map Vs.c).Nodup
  wb : ∀ w ∈ V.ws, 0 ≤ w.w ∧ w.w ≤ 100000 + (n : Int)
  wl : V.ws.length ≤ 100
  sl : V.ss.length ≤ 5
  nl : now.length ≤ n
  jl : V.js.length ≤ n
  jd : ∀ j ∈ V.js, j.2.length ≤ 5000
/-- Behind a whole round. -/
structure KI (n : Nat) (V : Vp) (now : List Pe) (sq : Int → Int) (wt : List (Int × List Int)) : Prop extends MI n V now sq wt where
  sv : ∀ x ∈ now, x.c ∈ V.ss.map Vs.c
  sq0 : ∀ c, sq c ≠ 0 → c ∈ V.ss.map Vs.c
  sm : ∀ s ∈ V.ss, s.s ≤ 29
theorem left_dat {f : List Int} {now : List Pe} {c : Int} (hc : c ∈ f) : datOf c (leftP f now) = datOf c now := by
  unfold datOf leftP
  rw [List.filter_filter]
  congr 1
  refine List.filter_congr fun x _ => ?_
  by_cases h : x.c = c
  · rw [h]; simp [hc]
  · simp [h]
theorem MI.served {n : Nat} {V : Vp} {now : List Pe} {sq : Int → Int} {wt : List (Int × List Int)} (h : MI n V now sq wt) (hs : ∀ s ∈ V.ss, s.s ≤ 29) : KI n V (leftP (V.ss.map Vs.c) now) (seqP (V.ss.map Vs.c) now sq) wt := by
  have hsq : ∀ c, seqP (V.ss.map Vs.c) now sq c ≠ 0 → c ∈ V.ss.map Vs.c := fun c hc => by
    unfold seqP at hc
    by_cases hf : c ∈ V.ss.map Vs.c
    · exact hf
    · split at hc
      · exact absurd rfl hc
      · rename_i hno
        rcases h.mid c hc with g | ⟨x, hx, g⟩
        · exact g
        · exact absurd ⟨List.any_eq_true.2 ⟨x, hx, by simpa using g⟩, hf⟩ hno
  refine { q := h.q, r := h.r, js := h.js, ss := fun s hsm => ?_, mid := fun c hc => .inl (hsq c hc), nd := h.nd, wb := h.wb, wl := h.wl, sl := h.sl, nl := Nat.le_trans (List.length_filter_le _ _) h.nl, jl := h.jl, jd := h.jd, sv := fun x hx => ?_, sq0 := hsq, sm := hs }
  · obtain ⟨h1, h2, h3, h4, h5, h6⟩ := h.ss s hsm
    have hm : s.c ∈ V.ss.map Vs.c := List.mem_map_of_mem hsm
    refine ⟨?_, h2, by rw [left_dat hm]; exact h3, h4, h5, fun hq => ?_⟩
    · unfold seqP; rw [if_neg fun g => g.2 hm]; exact h1
    · obtain ⟨x, hx, hxc⟩ := h6 hq
      exact ⟨x, List.mem_filter.2 ⟨hx, by rw [hxc]; simpa using hm⟩, hxc⟩
  · have := (List.mem_filter.1 hx).2
    simpa using this
theorem MI.mono {n n2 : Nat} {V : Vp} {now : List Pe} {sq : Int → Int} {wt : List (Int × List Int)} (h : MI n V now sq wt) (hn : n ≤ n2) : MI n2 V now sq wt :=
  { q := h.q, r := h.r, js := h.js, ss := h.ss, mid := h.mid, nd := h.nd, wb := fun w hw => by have := h.wb w hw; omega, wl := h.wl, sl := h.sl, nl := Nat.le_trans h.nl hn, jl := Nat.le_trans h.jl hn, jd := h.jd }
theorem KI.want {n : Nat} {V : Vp} {now : List Pe} {sq : Int → Int} {wt : List (Int × List Int)} (h : KI n V now sq wt) (c w : Int) : MI (n + 1) { V with ws := WantPV V c w } now sq wt := by
  have h0 := h.toMI.mono (Nat.le_succ n)
  have hid : WantPV V c w = V.ws → MI (n + 1) { V with ws := WantPV V c w } now sq wt := fun he => by rw [he]; exact h0
  unfold WantPV at hid ⊢
  by_cases h1 : c < 1 ∨ within w 0 100000 = false
  · rw [if_pos h1] at hid ⊢; exact hid rfl
  rw [if_neg h1] at hid ⊢
  unfold wantPV at hid ⊢
  by_cases h2 : wantEV V ⟨c, w, .nilp⟩ = 0
  rotate_left
  · rw [if_neg h2] at hid ⊢; exact hid rfl
  rw [if_pos h2]
  unfold wantEV at h2
  have h3 : ¬ (V.ws.any (pW c) = true ∨ V.ss.any (fun s => decide (s.c = c)) = true) := fun g => by rw [if_pos g] at h2; exact absurd h2 (by decide)
  rw [if_neg h3] at h2
  have h4 : ¬ V.ws.length = 100 := fun g => by rw [if_pos g] at h2; exact absurd h2 (by decide)
  have hwr : 0 ≤ w ∧ w ≤ 100000 := by
    cases hx : within w 0 100000
    · exact absurd (.inr hx) h1
    · unfold within at hx; simpa using hx
  refine { q := h0.q, r := h0.r, js := h0.js, ss := h0.ss, mid := h0.mid, nd := ?_, wb := fun x hx => ?_, wl := ?_, sl := h0.sl, nl := h0.nl, jl := h0.jl, jd := h0.jd }
  · show ((V.ws ++ [(⟨c, w, .nilp⟩ : Wt)]).map Wt.c ++ V.ss.map Vs.c).Nodup
    rw [List.map_append, List.map_cons, List.map_nil, List.append_assoc]
    have hp : (c :: (V.ws.map Wt.c ++ V.ss.map Vs.c)).Perm (V.ws.map Wt.c ++ ([c] ++ V.ss.map Vs.c)) := List.perm_middle.symm
    refine (hp.nodup_iff).1 (List.nodup_cons.2 ⟨fun hm => h3 ?_, h.nd⟩)
    rcases List.mem_append.1 hm with g | g
    · obtain ⟨x, hx, hxc⟩ := List.mem_map.1 g
      exact .inl (List.any_eq_true.2 ⟨x, hx, by unfold pW; simpa using hxc⟩)
    · obtain ⟨x, hx, hxc⟩ := List.mem_map.1 g
      exact .inr (List.any_eq_true.2 ⟨x, hx, by simpa using hxc⟩)
  · rcases List.mem_append.1 hx with g | g
    · exact h0.wb x g
    · rw [List.mem_singleton.1 g]; exact ⟨hwr.1, by show w ≤ _; have := hwr.2; omega⟩
  · show (V.ws ++ [(⟨c, w, .nilp⟩ : Wt)]).length ≤ 100
    have := h.wl
    rw [List.length_append]; simp; omega
theorem serveL_perm : ∀ (k : Nat) (ws : List Wt), ((serveL k ws).1 ++ (serveL k ws).2).Perm ws ∧ (serveL k ws).1.length ≤ k
  | 0, ws => ⟨by simp [serveL], by simp [serveL]⟩
  | k + 1, ws => by
    by_cases h : ws = []
    · subst h; exact ⟨by simp [serveL], by simp [serveL]⟩
    · rw [serveL, if_neg h]
      obtain ⟨h1, h2⟩ := serveL_perm k (ws.eraseIdx (best ws))
      have hl : 0 < ws.length := List.length_pos_iff.2 h
      have hb : best ws < ws.length := bestAt_lt ws _ hl
      refine ⟨?_, by simp; omega⟩
      have he : ws[best ws]? = some ws[best ws] := List.getElem?_eq_getElem hb
      rw [he]
      show (ws[best ws] :: ((serveL k (ws.eraseIdx (best ws))).1 ++ (serveL k (ws.eraseIdx (best ws))).2)).Perm ws
      refine ((List.perm_cons _).2 h1).trans ?_
      have hcut : ws = ws.take (best ws) ++ ws[best ws] :: ws.drop (best ws + 1) := by rw [List.getElem_cons_drop, List.take_append_drop]
      rw [List.eraseIdx_eq_take_drop_succ]
      conv => rhs; rw [hcut]
      exact List.perm_middle.symm
theorem kept_mem {V : Vp} {s : Vs} (h : s ∈ keptV V) : ∃ s0 ∈ V.ss, s = incV s0 ∧ ¬ s.s = 30 := by
  obtain ⟨h1, h2⟩ := List.mem_filter.1 h
  obtain ⟨s0, h3, rfl⟩ := List.mem_map.1 h1
  exact ⟨s0, h3, rfl, by unfold keepV at h2; simpa using h2⟩
theorem kept_sub (V : Vp) : ((keptV V).map Vs.c).Sublist (V.ss.map Vs.c) := by
  have h1 : ((V.ss.map incV).filter keepV).Sublist (V.ss.map incV) := List.filter_sublist
  have h2 := h1.map Vs.c
  rw [List.map_map] at h2
  exact h2
theorem KI.tick {n : Nat} {V : Vp} {now : List Pe} {sq : Int → Int} {wt : List (Int × List Int)} (h : KI n V now sq wt) : MI (n + 1) (tickV V) now sq wt ∧ ∀ s ∈ (tickV V).ss, s.s ≤ 29 := by
  have h0 := h.toMI.mono (Nat.le_succ n)
  obtain ⟨hp, hl⟩ := serveL_perm (freeV V) (V.ws.map incW)
  obtain ⟨A, hA⟩ : ∃ A, A = (serveL (freeV V) (V.ws.map incW)).1 := ⟨_, rfl⟩
  obtain ⟨B, hB⟩ : ∃ B, B = (serveL (freeV V) (V.ws.map incW)).2 := ⟨_, rfl⟩
  have hT : tickV V = { V with ws := B, ss := keptV V ++ A.map newV } := by unfold tickV; rw [hA, hB]
  rw [← hA, ← hB] at hp
  rw [← hA] at hl
  rw [hT]
  have hin : ∀ w, w ∈ A ++ B → ∃ w0 ∈ V.ws, w.c = w0.c ∧ w.w = w0.w + 1 := fun w hw => by
    obtain ⟨w0, h1, rfl⟩ := List.mem_map.1 (hp.mem_iff.1 hw)
    exact ⟨w0, h1, rfl, rfl⟩
  have hcl : ((A ++ B).map Wt.c).Perm (V.ws.map Wt.c) := by
    have := hp.map Wt.c
    rw [List.map_map] at this
    exact this
  have hdis : ∀ w ∈ A, w.c ∉ V.ss.map Vs.c := fun w hw hm => by
    obtain ⟨w0, h1, h2, _⟩ := hin w (List.mem_append.2 (.inl hw))
    exact (List.nodup_append.1 h.nd).2.2 w0.c (List.mem_map_of_mem h1) _ hm h2.symm
  have hkl : (keptV V).length ≤ V.ss.length := by
    have := List.length_filter_le keepV (V.ss.map incV)
    rw [List.length_map] at this; exact this
  have hbl : B.length ≤ V.ws.length := by
    have := hp.length_eq
    rw [List.length_append, List.length_map] at this; omega
  refine ⟨{ q := h0.q, r := h0.r, js := h0.js, ss := fun s hs => ?_, mid := fun c hc => ?_, nd := ?_, wb := fun w hw => ?_, wl := Nat.le_trans hbl h.wl, sl := ?_, nl := h0.nl, jl := h0.jl, jd := h0.jd }, fun s hs => ?_⟩
  · rcases List.mem_append.1 hs with g | g
    · obtain ⟨s0, h1, rfl, h2⟩ := kept_mem g
      obtain ⟨q1, q2, q3, q4, q5, q6⟩ := h.ss s0 h1
      have := h.sm s0 h1
      exact ⟨q1, q2, q3, q4, ⟨by show 0 ≤ s0.s + 1; omega, by show s0.s + 1 ≤ 1000; omega⟩, q6⟩
    · obtain ⟨w, hw, rfl⟩ := List.mem_map.1 g
      have hn := hdis w hw
      have hq : sq w.c = 0 := Decidable.byContradiction fun g => hn (h.sq0 _ g)
      have hd : datOf w.c now = [] := by
        unfold datOf
        rw [List.filter_eq_nil_iff.2 fun x hx hc => hn (by rw [← of_decide_eq_true hc]; exact h.sv x hx)]; rfl
      exact ⟨hq.symm, ⟨Int.le_refl 0, (by decide : (0 : Int) ≤ 255)⟩, hd.symm, Nat.zero_le _, ⟨Int.le_refl 0, (by decide : (0 : Int) ≤ 1000)⟩, fun g => absurd rfl g⟩
  · obtain ⟨s, hs, rfl⟩ := List.mem_map.1 (h.sq0 c hc)
    obtain ⟨q1, _, _, _, _, q6⟩ := h.ss s hs
    exact .inr (q6 (by rw [q1]; exact hc))
  · show (B.map Wt.c ++ (keptV V ++ A.map newV).map Vs.c).Nodup
    rw [List.map_append, List.map_map]
    have e1 : Vs.c ∘ newV = Wt.c := rfl
    rw [e1]
    have p1 : (B.map Wt.c ++ ((keptV V).map Vs.c ++ A.map Wt.c)).Perm ((A.map Wt.c ++ B.map Wt.c) ++ (keptV V).map Vs.c) := by
      have g1 : (B.map Wt.c ++ ((keptV V).map Vs.c ++ A.map Wt.c)).Perm (B.map Wt.c ++ (A.map Wt.c ++ (keptV V).map Vs.c)) := List.Perm.append_left _ List.perm_append_comm
      refine g1.trans ?_
      have g2 : ((B.map Wt.c ++ A.map Wt.c) ++ (keptV V).map Vs.c).Perm ((A.map Wt.c ++ B.map Wt.c) ++ (keptV V).map Vs.c) := List.Perm.append_right _ List.perm_append_comm
      rw [List.append_assoc] at g2
      exact g2
    rw [← List.map_append] at p1
    have p2 := p1.trans (List.Perm.append_right _ hcl)
    exact p2.nodup_iff.2 (h.nd.sublist (List.Sublist.append_left (kept_sub V) _))
  · obtain ⟨w0, h1, _, h2⟩ := hin w (List.mem_append.2 (.inr hw))
    have := h.wb w0 h1
    rw [h2]; omega
  · show (keptV V ++ A.map newV).length ≤ 5
    have hr := h.r
    have hs := h.sl
    rw [List.length_append, List.length_map]
    unfold freeV at hl
    omega
  · rcases List.mem_append.1 hs with g | g
    · obtain ⟨s0, h1, rfl, h2⟩ := kept_mem g
      have h3 := h.sm s0 h1
      have h4 : (incV s0).s = s0.s + 1 := rfl
      rw [h4] at h2 ⊢; omega
    · obtain ⟨w, hw, rfl⟩ := List.mem_map.1 g
      exact (by decide : (0 : Int) ≤ 29)
theorem nd_get {l : List Vs} (h : (l.map Vs.c).Nodup) {i : Nat} {s : Vs} (hs : l[i]? = some s) : ∀ t ∈ l.eraseIdx i, t ∈ l ∧ t.c ≠ s.c := by
  intro t ht
  obtain ⟨hi, he⟩ := List.getElem?_eq_some_iff.1 hs
  have hcut : l = l.take i ++ s :: l.drop (i + 1) := by rw [← he, List.getElem_cons_drop, List.take_append_drop]
  rw [List.eraseIdx_eq_take_drop_succ] at ht
  rw [hcut, List.map_append, List.map_cons] at h
  have hp : (l.take i ++ s :: l.drop (i + 1)).Perm (s :: (l.take i ++ l.drop (i + 1))) := List.perm_middle
  refine ⟨by rw [hcut]; exact hp.mem_iff.2 (List.mem_cons_of_mem _ ht), fun hc => ?_⟩
  have h2 := ((hp.map Vs.c).nodup_iff).1 (by rw [List.map_append, List.map_cons]; exact h)
  exact (List.nodup_cons.1 h2).1 (by rw [← hc]; exact List.mem_map_of_mem ht)
theorem dat_other {c k : Int} {d : List Int} {now : List Pe} (h : k ≠ c) : datOf k (now ++ [⟨c, d⟩]) = datOf k now := by
  unfold datOf
  rw [List.filter_append, List.filter_cons_of_neg (by simpa using fun g => h g.symm)]; simp
theorem dat_same {c : Int} {d : List Int} {now : List Pe} : datOf c (now ++ [⟨c, d⟩]) = datOf c now ++ d := by
  unfold datOf
  rw [List.filter_append, List.filter_cons_of_pos (by simp)]; simp
theorem dat_drop {c k : Int} {now : List Pe} (h : k ≠ c) : datOf k (now.filter fun x => !decide (x.c = c)) = datOf k now := by
  unfold datOf
  rw [List.filter_filter]
  congr 1
  refine List.filter_congr fun x _ => ?_
  by_cases g : x.c = k
  · rw [g]; simp [h]
  · simp [g]
def setS (sq : Int → Int) (c n k : Int) : Int := if k = c then n else sq k
theorem KI.send {n : Nat} {V : Vp} {now : List Pe} {sq : Int → Int} {wt : List (Int × List Int)} (h : KI n V now sq wt) (c : Int) (d : List Int) (en : Bool) :
    ((SendV V c (sq c % 255 + 1) d en).1 ≠ 0 ∧ MI (n + 1) (SendV V c (sq c % 255 + 1) d en).2 now sq wt ∧ ∀ s ∈ (SendV V c (sq c % 255 + 1) d en).2.ss, s.s ≤ 29) ∨
    ((SendV V c (sq c % 255 + 1) d en).1 = 0 ∧ en = true ∧ MI (n + 1) (SendV V c (sq c % 255 + 1) d en).2 (now.filter fun x => !decide (x.c = c)) (setS sq c 0) (wt ++ [(c, datOf c (now ++ [⟨c, d⟩]))]) ∧ ∀ s ∈ (SendV V c (sq c % 255 + 1) d en).2.ss, s.s ≤ 29) ∨
    ((SendV V c (sq c % 255 + 1) d en).1 = 0 ∧ en = false ∧ MI (n + 1) (SendV V c (sq c % 255 + 1) d en).2 (now ++ [⟨c, d⟩]) (setS sq c (sq c % 255 + 1)) wt ∧ (∀ s ∈ (SendV V c (sq c % 255 + 1) d en).2.ss, s.s ≤ 29) ∧
      SendV (SendV V c (sq c % 255 + 1) d en).2 c (sq c % 255 + 1) d en = (0, (SendV V c (sq c % 255 + 1) d en).2)) := by
  have h0 := h.toMI.mono (Nat.le_succ n)
  obtain ⟨N, hN⟩ : ∃ N, N = sq c % 255 + 1 := ⟨_, rfl⟩
  rw [← hN]
  cases hb : barV V c N d.length en with
  | some e =>
    have hS : SendV V c N d en = (e, V) := by unfold SendV; rw [hb]
    rw [hS]
    refine .inl ⟨?_, h0, h.sm⟩
    unfold barV at hb
    split at hb
    · cases hb; exact (by decide : (5 : Int) ≠ 0)
    · split at hb
      · cases hb; exact (by decide : (2 : Int) ≠ 0)
      · cases hb
  | none =>
    have hf : ∃ i, V.ss.findIdx? (fun s => decide (s.c = c)) = some i := by
      unfold barV at hb
      cases hx : V.ss.findIdx? (fun s => decide (s.c = c)) with
      | some i => exact ⟨i, rfl⟩
      | none => rw [if_pos (.inr hx)] at hb; cases hb
    obtain ⟨i, hi⟩ := hf
    have hS : SendV V c N d en = sendV V i N d en := by unfold SendV; rw [hb, hi]
    rw [hS]
    obtain ⟨hil, hic, _⟩ := List.findIdx?_eq_some_iff_getElem.1 hi
    obtain ⟨s, hs⟩ : ∃ s, V.ss[i]? = some s := ⟨V.ss[i], List.getElem?_eq_getElem hil⟩
    have hsc : s.c = c := by
      rw [(List.getElem?_eq_some_iff.1 hs).2] at hic
      simpa using hic
    have hsm := List.mem_of_getElem? hs
    obtain ⟨q1, q2, q3, q4, q5, q6⟩ := h.ss s hsm
    have h29 := h.sm s hsm
    rw [hsc] at q1 q3 q6
    have hne : ¬ N = s.q := by rw [hN, ← q1]; omega
    have hnx : ¬ N ≠ s.q % 255 + 1 := by rw [hN, ← q1]; simp
    have hNr : 1 ≤ N ∧ N ≤ 255 := by rw [hN]; omega
    have hndS : (V.ss.map Vs.c).Nodup := (List.nodup_append.1 h.nd).2.1
    have her := nd_get hndS hs
    have hsub : (V.ws.map Wt.c ++ (V.ss.eraseIdx i).map Vs.c).Nodup := h.nd.sublist (List.Sublist.append_left ((List.eraseIdx_sublist _ _).map Vs.c) _)
    have hel : (V.ss.eraseIdx i).length ≤ 5 := Nat.le_trans (List.eraseIdx_sublist _ _).length_le h.sl
    have hV : sendV V i N d en = if 5000 < s.d.length + d.length then (4, { V with ss := V.ss.eraseIdx i }) else if en = true then (0, { V with ss := V.ss.eraseIdx i, js := V.js ++ [(s.c, s.d ++ d)] }) else (0, { V with ss := V.ss.set i { s with q := N, s := 0, d := s.d ++ d } }) := by
      unfold sendV; rw [hs]; simp only; rw [if_neg hne, if_neg hnx]
    rw [hV]
    by_cases h5 : 5000 < s.d.length + d.length
    · rw [if_pos h5]
      refine .inl ⟨(by decide : (4 : Int) ≠ 0), { q := h0.q, r := h0.r, js := h0.js, ss := fun t ht => h.ss t (her t ht).1, mid := fun k hk => ?_, nd := hsub, wb := h0.wb, wl := h0.wl, sl := hel, nl := h0.nl, jl := h0.jl, jd := h0.jd }, fun t ht => h.sm t (her t ht).1⟩
      obtain ⟨t, ht, rfl⟩ := List.mem_map.1 (h.sq0 k hk)
      exact .inr ((h.ss t ht).2.2.2.2.2 (by rw [(h.ss t ht).1]; exact hk))
    rw [if_neg h5]
    cases en with
    | true =>
      rw [if_pos rfl]
      refine .inr (.inl ⟨rfl, rfl, { q := h0.q, r := h0.r, js := ?_, ss := fun t ht => ?_, mid := fun k hk => ?_, nd := hsub, wb := h0.wb, wl := h0.wl, sl := hel, nl := Nat.le_trans (List.length_filter_le _ _) h0.nl, jl := ?_, jd := fun j hj => ?_ }, fun t ht => h.sm t (her t ht).1⟩)
      · show V.js ++ [(s.c, s.d ++ d)] = _
        rw [dat_same, h.js, hsc, q3]
      · obtain ⟨g1, g2⟩ := her t ht
        rw [hsc] at g2
        obtain ⟨r1, r2, r3, r4, r5, r6⟩ := h.ss t g1
        refine ⟨by unfold setS; rw [if_neg g2]; exact r1, r2, by rw [dat_drop g2]; exact r3, r4, r5, fun hq => ?_⟩
        obtain ⟨x, hx, hxc⟩ := r6 hq
        exact ⟨x, List.mem_filter.2 ⟨hx, by rw [hxc]; simpa using g2⟩, hxc⟩
      · unfold setS at hk
        by_cases hkc : k = c
        · rw [if_pos hkc] at hk; exact absurd rfl hk
        · rw [if_neg hkc] at hk
          obtain ⟨t, ht, rfl⟩ := List.mem_map.1 (h.sq0 k hk)
          obtain ⟨x, hx, hxc⟩ := (h.ss t ht).2.2.2.2.2 (by rw [(h.ss t ht).1]; exact hk)
          exact .inr ⟨x, List.mem_filter.2 ⟨hx, by rw [hxc]; simpa using hkc⟩, hxc⟩
      · show (V.js ++ [(s.c, s.d ++ d)]).length ≤ n + 1
        have := h.jl
        rw [List.length_append]; simp; omega
      · rcases List.mem_append.1 hj with g | g
        · exact h.jd j g
        · rw [List.mem_singleton.1 g]
          show (s.d ++ d).length ≤ 5000
          rw [List.length_append]; omega
    | false =>
      rw [if_neg (by simp)]
      have hmem : ∀ t ∈ V.ss.set i { s with q := N, s := 0, d := s.d ++ d }, t = { s with q := N, s := 0, d := s.d ++ d } ∨ (t ∈ V.ss ∧ t.c ≠ c) := fun t ht => by
        rw [List.set_eq_take_append_cons_drop, if_pos hil] at ht
        rcases List.mem_append.1 ht with g | g
        · have := her t (by rw [List.eraseIdx_eq_take_drop_succ]; exact List.mem_append.2 (.inl g))
          rw [hsc] at this; exact .inr this
        · rcases List.mem_cons.1 g with g | g
          · exact .inl g
          · have := her t (by rw [List.eraseIdx_eq_take_drop_succ]; exact List.mem_append.2 (.inr g))
            rw [hsc] at this; exact .inr this
      have hcs : (V.ss.set i { s with q := N, s := 0, d := s.d ++ d }).map Vs.c = V.ss.map Vs.c := by
        rw [List.map_set]
        have : s.c = (V.ss.map Vs.c)[i]'(by rw [List.length_map]; exact hil) := by rw [List.getElem_map, (List.getElem?_eq_some_iff.1 hs).2]
        show (V.ss.map Vs.c).set i s.c = _
        conv => lhs; rw [this]
        exact List.set_getElem_self _
      refine .inr (.inr ⟨rfl, rfl, { q := h0.q, r := h0.r, js := h0.js, ss := fun t ht => ?_, mid := fun k hk => .inl ?_, nd := ?_, wb := h0.wb, wl := h0.wl, sl := by show (V.ss.set i _).length ≤ 5; rw [List.length_set]; exact h.sl, nl := ?_, jl := h0.jl, jd := h0.jd }, fun t ht => ?_, ?_⟩)
      · rcases hmem t ht with rfl | ⟨g1, g2⟩
        · refine ⟨by show N = setS sq c N s.c; unfold setS; rw [if_pos hsc], ⟨by show 0 ≤ N; omega, by show N ≤ 255; omega⟩, ?_, ?_, ⟨Int.le_refl 0, (by decide : (0 : Int) ≤ 1000)⟩, fun _ => ⟨⟨c, d⟩, by simp, hsc.symm⟩⟩
          · show s.d ++ d = datOf s.c (now ++ [⟨c, d⟩])
            rw [hsc, dat_same, q3]
          · show (s.d ++ d).length ≤ 5000
            rw [List.length_append]; omega
        · obtain ⟨r1, r2, r3, r4, r5, r6⟩ := h.ss t g1
          refine ⟨by unfold setS; rw [if_neg g2]; exact r1, r2, by rw [dat_other g2]; exact r3, r4, r5, fun hq => ?_⟩
          obtain ⟨x, hx, hxc⟩ := r6 hq
          exact ⟨x, List.mem_append.2 (.inl hx), hxc⟩
      · show k ∈ (V.ss.set i { s with q := N, s := 0, d := s.d ++ d }).map Vs.c
        rw [hcs]
        unfold setS at hk
        by_cases hkc : k = c
        · rw [hkc, ← hsc]; exact List.mem_map_of_mem hsm
        · rw [if_neg hkc] at hk; exact h.sq0 k hk
      · show (V.ws.map Wt.c ++ (V.ss.set i { s with q := N, s := 0, d := s.d ++ d }).map Vs.c).Nodup
        rw [hcs]; exact h.nd
      · have := h.nl
        rw [List.length_append]; simp; omega
      · rcases hmem t ht with rfl | ⟨g1, g2⟩
        · exact (by decide : (0 : Int) ≤ 29)
        · exact h.sm t g1
      · obtain ⟨s', hs'⟩ : ∃ s' : Vs, s' = { s with q := N, s := 0, d := s.d ++ d } := ⟨_, rfl⟩
        rw [← hs'] at hcs ⊢
        have fm : ∀ l : List Vs, l.findIdx? (fun s => decide (s.c = c)) = (l.map Vs.c).findIdx? (fun k => decide (k = c)) := fun l => by rw [List.findIdx?_map]; rfl
        have hi' : (V.ss.set i s').findIdx? (fun s => decide (s.c = c)) = some i := by rw [fm, hcs, ← fm]; exact hi
        have hb' : barV { V with ss := V.ss.set i s' } c N d.length false = none := by
          unfold barV at hb ⊢
          simp only [hi'] at hb ⊢
          rw [hi] at hb
          exact hb
        have hg : (V.ss.set i s')[i]? = some s' := List.getElem?_set_self hil
        unfold SendV
        rw [hb']
        simp only [hi']
        unfold sendV
        simp only [hg]
        have e1 : N = s'.q := by rw [hs']
        have e2 : ({ s' with s := 0 } : Vs) = s' := by rw [hs']
        rw [if_pos e1, e2, List.set_set]
end Go.AM.X
namespace Go.AM.X
open Go Go.AM Go.Proofs Go.AM.Sx
set_option maxHeartbeats 1600000
set_option linter.unusedVariables false
def offJ (wv : AV) (J : List Jb) (c : Nat) : Prop := offRow wv c ∧ ∀ j ∈ J, offRow j.d c
theorem JR.keepJ {h0 h h2 : AH} {v : AV} {J : List Jb} (hj : JR h0 h v J) (hn : h.next ≤ h2.next) (hk : ∀ c, c < h.next → ¬ offJ v J c → h2.get c = h.get c) : JR h0 h2 v J :=
  { r := hj.r.keep hn fun b o l k z x e => hk b (hj.r.lt e) fun g => g.1 _ _ _ _ _ _ e rfl
    f := hj.f
    d := fun j hm => (hj.d j hm).keep hn fun b o l k z x e => hk b (RowC.lt (hj.d j hm) e) fun g => g.2 j hm _ _ _ _ _ _ e rfl
    df := hj.df
    o := hj.o }
theorem offRow_ge {sz n : Nat} {h : AH} {v : AV} {cs : List AV} (hr : RowC sz h v n cs) {c : Nat} (hc : h.next ≤ c) : offRow v c := fun b o l k z x e => by have := hr.lt e; omega
theorem offJ_ge {h0 h : AH} {v : AV} {J : List Jb} (hj : JR h0 h v J) {c : Nat} (hc : h.next ≤ c) : offJ v J c := ⟨offRow_ge hj.r hc, fun j hm => offRow_ge (hj.d j hm) hc⟩
/-- The printer, the map, the pieces and the wanted jobs, each off the others. -/
structure W5 (h : AH) (p : Nat) (V : Vp) (off : Nat → Prop) (b : Nat) (sq : Int → Int) (nv : AV) (now : List Pe) (wv : AV) (J : List Jb) : Prop where
  v : OkV h p V off
  m : MapN h b sq
  n : RowC 2 h nv now.length (fl Pe.av now)
  w : JR e0 h wv J
  bl : b < h.next
  vb : off b
  nb : offRow nv b
  wb : offJ wv J b
  vn : Apt off (offRow nv)
  vw : Apt off (offJ wv J)
  nw : Apt (offRow nv) (offJ wv J)
theorem W5.grow {h h2 : AH} {p b : Nat} {V : Vp} {off : Nat → Prop} {sq : Int → Int} {nv wv : AV} {now : List Pe} {J : List Jb} (hW : W5 h p V off b sq nv now wv J) (hg : Grow h h2) : W5 h2 p V off b sq nv now wv J :=
  { v := hW.v.grow hg, m := hW.m.keep (hg.2 _ hW.bl), n := hW.n.grow hg, w := hW.w.grow hg, bl := Nat.lt_of_lt_of_le hW.bl hg.1, vb := hW.vb, nb := hW.nb, wb := hW.wb, vn := hW.vn, vw := hW.vw, nw := hW.nw }
/-- The printer does something. -/
theorem W5.op {h h2 : AH} {p b : Nat} {V V2 : Vp} {off off2 : Nat → Prop} {sq : Int → Int} {nv wv : AV} {now : List Pe} {J : List Jb} (hW : W5 h p V off b sq nv now wv J) (hV : OkV h2 p V2 off2) (hS : Stf h h2 off off2) : W5 h2 p V2 off2 b sq nv now wv J :=
  { v := hV
    m := hW.m.keep (hS.2 b hW.bl hW.vb).1
    n := hW.n.keep hS.1 fun c o l k z x e => (hS.2 c (hW.n.lt e) ((hW.vn c).resolve_right fun g => g _ _ _ _ _ _ e rfl)).1
    w := hW.w.keepJ hS.1 fun c hc hn => (hS.2 c hc ((hW.vw c).resolve_right hn)).1
    bl := Nat.lt_of_lt_of_le hW.bl hS.1
    vb := (hS.2 b hW.bl hW.vb).2
    nb := hW.nb
    wb := hW.wb
    vn := hW.vn.step hS fun c hc => offRow_ge hW.n hc
    vw := hW.vw.step hS fun c hc => offJ_ge hW.w hc
    nw := hW.nw }
/-- The map is written. -/
theorem W5.map {h h2 : AH} {p b : Nat} {V : Vp} {off : Nat → Prop} {sq sq2 : Int → Int} {nv wv : AV} {now : List Pe} {J : List Jb} (hW : W5 h p V off b sq nv now wv J) (hm : MapN h2 b sq2) (hc : Chg h h2 b) : W5 h2 p V off b sq2 nv now wv J :=
  { v := hW.v.keep hc.1 fun c hl hn => hc.2 c hl fun e => hn (by rw [e]; exact hW.vb)
    m := hm
    n := hW.n.keep hc.1 fun c o l k z x e => hc.2 c (hW.n.lt e) fun g => hW.nb _ _ _ _ _ _ e g.symm
    w := hW.w.keepJ hc.1 fun c hl hn => hc.2 c hl fun e => hn (by rw [e]; exact hW.wb)
    bl := Nat.lt_of_lt_of_le hW.bl hc.1, vb := hW.vb, nb := hW.nb, wb := hW.wb, vn := hW.vn, vw := hW.vw, nw := hW.nw }
/-- The pieces are a new row. -/
theorem W5.pieces {h h2 : AH} {p b : Nat} {V : Vp} {off : Nat → Prop} {sq : Int → Int} {nv nv2 wv : AV} {now now2 : List Pe} {J : List Jb} (hW : W5 h p V off b sq nv now wv J) (hr : RowC 2 h2 nv2 now2.length (fl Pe.av now2)) (hn : h.next ≤ h2.next)
    (hk : ∀ c, c < h.next → offRow nv c → h2.get c = h.get c) (hsh : ∀ b o l k z x, nv2 = .sl b o l k z x → h.next ≤ b ∨ ∃ o l k z x, nv = .sl b o l k z x) : W5 h2 p V off b sq nv2 now2 wv J := by
  have hoff : ∀ c, c < h.next → offRow nv c → offRow nv2 c := fun c hc ho => off_new hsh hc ho
  refine { v := hW.v.keep hn fun c hl hno => hk c hl ((hW.vn c).resolve_left hno), m := hW.m.keep (hk b hW.bl hW.nb), n := hr, w := hW.w.keepJ hn fun c hl hno => hk c hl ((hW.nw c).resolve_right hno), bl := Nat.lt_of_lt_of_le hW.bl hn, vb := hW.vb, nb := hoff b hW.bl hW.nb, wb := hW.wb, vn := fun c => ?_, vw := hW.vw, nw := fun c => ?_ }
  · rcases Nat.lt_or_ge c h.next with hc | hc
    · rcases hW.vn c with g | g
      · exact .inl g
      · exact .inr (hoff c hc g)
    · exact .inl (hW.v.off_ge hc)
  · rcases Nat.lt_or_ge c h.next with hc | hc
    · rcases hW.nw c with g | g
      · exact .inl (hoff c hc g)
      · exact .inr g
    · exact .inr (offJ_ge hW.w hc)
/-- One more job is wanted. -/
theorem W5.want {h : AH} {p b : Nat} {V : Vp} {off : Nat → Prop} {sq : Int → Int} {nv wv : AV} {now : List Pe} {J : List Jb} (hW : W5 h p V off b sq nv now wv J) (j : Jb) (hd : Dat h j.d j.bs)
    (ho : ∀ b' o l k z x, j.d = .sl b' o l k z x → off b' ∧ b' ≠ b ∧ offRow nv b' ∧ offRow wv b') (hl : J.length ≤ 1000000) :
    ∃ wv2 h2, aAppend T 51 51 wv (.sl h.next 0 1 1 2 true) (h.alloc (.cells [.int .i64 j.c, j.d] .own)) = some (wv2, h2) ∧ W5 h2 p V off b sq nv now wv2 (J ++ [j]) := by
  have hj := hW.w
  have hone : ([.int .i64 j.c, j.d] : List AV).all AV.one = true := by simp only [List.all_cons, List.all_nil, (RowC.cells hd).2]; rfl
  obtain ⟨v', h2, q1, q2, q3, q4, q5⟩ := hj.r.push (new := [.int .i64 j.c, j.d]) T51 d51 T58 s58 (by decide) (by rw [b58]; decide) rfl hone (by rw [b58]; simp [maxBytes]; omega)
  have hall : ∀ i ∈ J ++ [j], Dat h i.d i.bs ∧ ∀ b o l k z x, i.d = .sl b o l k z x → offRow wv b := fun i hi => by
    rcases List.mem_append.1 hi with g | g
    · exact ⟨hj.d i g, hj.o i g⟩
    · rw [List.mem_singleton] at g; subst g; exact ⟨hd, fun b' o l k z x e => (ho _ _ _ _ _ _ e).2.2.2⟩
  have hn : h.next ≤ h2.next := by omega
  have hJ2 : JR e0 h2 v' (J ++ [j]) := by
    refine { r := ?_, f := fun b o l k z x e => Nat.zero_le _, d := fun i hi => ?_, df := fun i hi b o l k z x e => Nat.zero_le _, o := fun i hi b o l k z x e => ?_ }
    · rw [jcs_app, List.length_append]; exact q2
    · exact (hall i hi).1.keep hn fun b o l k z x e => q4 b (RowC.lt (hall i hi).1 e) ((hall i hi).2 _ _ _ _ _ _ e)
    · exact off_new (h := h) q5 (RowC.lt (hall i hi).1 e) ((hall i hi).2 _ _ _ _ _ _ e)
  have hjd : ∀ c, (∀ b' o l k z x, j.d = .sl b' o l k z x → c ≠ b') → offRow j.d c := fun c hc b' o l k z x e g => hc _ _ _ _ _ _ e (by first | exact g | exact g.symm)
  have hoff : ∀ c, c < h.next → offJ wv J c → offRow j.d c → offJ v' (J ++ [j]) c := fun c hc h1 h3 => ⟨off_new q5 hc h1.1, fun i hi => by
    rcases List.mem_append.1 hi with g | g
    · exact h1.2 i g
    · rw [List.mem_singleton] at g; subst g; exact h3⟩
  have hk : ∀ c, c < h.next → ¬ off c ∨ offJ wv J c → h2.get c = h.get c := fun c hc hx => q4 c hc (by
    rcases hx with g | g
    · exact ((hW.vw c).resolve_left g).1
    · exact g.1)
  refine ⟨v', h2, q1, { v := hW.v.keep hn fun c hc hx => hk c hc (.inl hx), m := hW.m.keep (hk b hW.bl (.inr hW.wb)), n := hW.n.keep hn fun c o l k z x e => ?_, w := hJ2, bl := Nat.lt_of_lt_of_le hW.bl hn, vb := hW.vb, nb := hW.nb, wb := ?_, vn := hW.vn, vw := fun c => ?_, nw := fun c => ?_ }⟩
  · have hc := hW.n.lt e
    exact q4 c hc ((hW.nw c).resolve_left fun g => g _ _ _ _ _ _ e rfl).1
  · exact hoff b hW.bl hW.wb (hjd b fun b' o l k z x e g => (ho _ _ _ _ _ _ e).2.1 g.symm)
  · rcases Nat.lt_or_ge c h.next with hc | hc
    · rcases hW.vw c with g | g
      · exact .inl g
      · by_cases hx : off c
        · exact .inl hx
        · exact .inr (hoff c hc g (hjd c fun b' o l k z x e g2 => hx (by rw [g2]; exact (ho _ _ _ _ _ _ e).1)))
    · exact .inl (hW.v.off_ge hc)
  · rcases Nat.lt_or_ge c h.next with hc | hc
    · rcases hW.nw c with g | g
      · exact .inl g
      · by_cases hx : offRow nv c
        · exact .inl hx
        · exact .inr (hoff c hc g (hjd c fun b' o l k z x e g2 => hx (by rw [g2]; exact (ho _ _ _ _ _ _ e).2.2.1)))
    · exact .inl (offRow_ge hW.n hc)
end Go.AM.X
namespace Go.AM.X
open Go Go.AM Go.Proofs Go.AM.Sx
set_option maxHeartbeats 3200000
set_option maxRecDepth 100000
set_option linter.unusedVariables false
theorem W5.left {h h2 : AH} {p b : Nat} {V : Vp} {off : Nat → Prop} {sq sq2 : Int → Int} {nv v wv : AV} {now now2 : List Pe} {J : List Jb} (hW : W5 h p V off b sq nv now wv J) (hr : RowC 2 h2 v now2.length (fl Pe.av now2)) (hf : Fresh h v) (hm : MapN h2 b sq2) (hc : Chg h h2 b) : W5 h2 p V off b sq2 v now2 wv J :=
  have h1 := hW.map hm hc
  { v := h1.v, m := hm, n := hr, w := h1.w, bl := h1.bl, vb := hW.vb, nb := hf.off hW.bl, wb := hW.wb
    vn := fun c => (Nat.lt_or_ge c h.next).elim (fun g => .inr (hf.off g)) fun g => .inl (hW.v.off_ge g)
    vw := hW.vw
    nw := fun c => (Nat.lt_or_ge c h.next).elim (fun g => .inl (hf.off g)) fun g => .inr (offJ_ge hW.w g) }
theorem tail22 {I : Nat → Option (List AV → AH → Rs)} (h32 : I 32 = none) (h14 : I 14 = none) (h22 : I 22 = none) (m p b n : Nat) (V : Vp) (off : Nat → Prop) (sq : Int → Int) (nv wv : AV) (now : List Pe) (J : List Jb) (wt : List (Int × List Int)) (h : AH) (hW : W5 h p V off b sq nv now wv J) (hM : MI n V now sq wt) (hs : ∀ s ∈ V.ss, s.s ≤ 29) (hn : n ≤ m ∧ n ≤ 100000) :
    ∃ v h2, call F I T (m + 260) 22 [.ptr p 0, nv, .mp b] h = some (v, h2) ∧ W5 h2 p V off b (seqP (V.ss.map Vs.c) now sq) v (leftP (V.ss.map Vs.c) now) wv J ∧ KI n V (leftP (V.ss.map Vs.c) now) (seqP (V.ss.map Vs.c) now sq) wt := by
  have hnl := hM.nl
  have hsl := hM.sl
  obtain ⟨v, h2, q1, q2, q3, q4, q5⟩ := run22 h32 h14 h22 m p b V off now nv sq h hW.v (by rw [hM.q]; decide) hW.n hW.m hW.bl ⟨by omega, by omega, by omega⟩
  exact ⟨v, h2, q1, hW.left q2 q3 q4 q5, hM.served hs⟩
/-- A frozen list of bytes comes behind a row of the job's own. -/
theorem dat_app {h0 h : AH} {v : AV} {bs : List Int} (d : List Int) (hd : Dat h v bs) (hf : Fresh h0 v) (hg : Grow h0 h) (hl : bs.length + d.length ≤ 100000000) :
    ∃ v2 h2, aAppend T 48 48 v (.lst false 1 d.length (bytes d)) h = some (v2, h2) ∧ Dat h2 v2 (bs ++ d) ∧ Fresh h0 v2 ∧ Grow h0 h2 ∧ h.next ≤ h2.next ∧ (∀ c, c < h.next → offRow v c → h2.get c = h.get c) ∧ (∀ b o l k z x, v2 = .sl b o l k z x → h.next ≤ b ∨ ∃ o l k z x, v = .sl b o l k z x) := by
  have hd' : RowC 1 h v bs.length (bytes bs) := hd
  obtain ⟨v2, h2, q1, q2, q3, q4, q5⟩ := RowC.app' (x := .lst false 1 d.length (bytes d)) (new := bytes d) (m := d.length) (xt := 48) T48 d48 T5 (isSrc_sl T48 d48) s5 (by decide) (by rw [b5]; decide) hd' (by rw [s5]; exact src_lst) (by simp [bytes]) (by simp [bytes, AV.one]) (by rw [b5]; simp [maxBytes]; omega)
  have g1 := hg.1
  refine ⟨v2, h2, q1, ?_, fun b o l k z x e => ?_, ⟨by omega, fun c hc => by rw [q4 c (by omega) (hf.off hc), hg.2 c hc]⟩, q3, q4, q5⟩
  · show RowC 1 h2 v2 (bs ++ d).length (bytes (bs ++ d))
    have : bytes (bs ++ d) = bytes bs ++ bytes d := by unfold bytes; rw [List.map_append]
    rw [this, List.length_append]; exact q2
  · rcases q5 _ _ _ _ _ _ e with g | ⟨_, _, _, _, _, g⟩
    · omega
    · exact hf _ _ _ _ _ _ g
end Go.AM.X
