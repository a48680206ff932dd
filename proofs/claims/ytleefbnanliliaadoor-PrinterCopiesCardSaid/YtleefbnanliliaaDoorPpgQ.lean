/- PrinterPlays: the plain law: both printers go the same way. Own work. -/
import Derived.Test.YtleefbnanliliaaDoorPpgP
import Derived.Test.YtleefbnanliliaaDoorPpgI
namespace Go.AM.X
open Go Go.AM Go.Proofs Go.AM.Sx
set_option maxHeartbeats 1600000
set_option maxRecDepth 100000
set_option linter.unusedVariables false
def mapC (t : Nat) (w : Wt) : Wt := ⟨w.c, w.w, if w.c = 0 then .ptr t 0 else .nilp⟩
def mapS (t : Nat) (x : Vs) : Ts := ⟨x.c, x.s, x.q % 255 + 1, decide (x.q ≠ 0), x.d, if x.c = 0 then .ptr t 0 else .nilp⟩
/-- The document's printer is the program's. -/
structure Rel (t : Nat) (V : Vp) (Q : Tp) : Prop where
  q : Q.q = V.q
  r : Q.r = V.r
  ws : Q.ws = V.ws.map (mapC t)
  ss : Q.ss = V.ss.map (mapS t)
  js : Q.js = V.js
  qs : Q.qs = if 0 < V.r then V.js.drop V.lf.toNat else []
def big (c : Int) : Prop := -9223372036854775808 ≤ c ∧ c ≤ 9223372036854775807
/-- What holds of the program's printer; its clients 0 are the spooler at s. -/
structure Inv (n s : Nat) (V : Vp) : Prop where
  q : 1 ≤ V.q ∧ V.q ≤ 500
  r : 0 ≤ V.r ∧ V.r ≤ 20
  wb : ∀ w ∈ V.ws, (0 ≤ w.w ∧ w.w ≤ 100000 + (n : Int)) ∧ big w.c ∧ (w.c = 0 → w.b = .ptr s 0)
  sb : ∀ x ∈ V.ss, (0 ≤ x.q ∧ x.q ≤ 255) ∧ (0 ≤ x.s ∧ x.s ≤ 29) ∧ x.d.length ≤ 5000 ∧ big x.c ∧ (x.c = 0 → x.b = .ptr s 0)
  nd : (V.ws.map Wt.c ++ V.ss.map Vs.c).Nodup
  wl : V.ws.length ≤ 100
  sl : (V.ss.length : Int) ≤ max V.r 1
  jl : V.js.length ≤ n
  jd : ∀ j ∈ V.js, j.2.length ≤ 5000
  lf : 0 ≤ V.lf ∧ V.lf ≤ (V.js.length : Int)
theorem Inv.mono {n n2 s : Nat} {V : Vp} (h : Inv n s V) (hn : n ≤ n2) : Inv n2 s V :=
  { q := h.q, r := h.r, wb := fun w hw => by obtain ⟨h1, h2, h3⟩ := h.wb w hw; exact ⟨⟨h1.1, by omega⟩, h2, h3⟩, sb := h.sb, nd := h.nd, wl := h.wl, sl := h.sl, jl := Nat.le_trans h.jl hn, jd := h.jd, lf := h.lf }
theorem Rel.inW {t : Nat} {V : Vp} {Q : Tp} (h : Rel t V Q) (c : Int) : inW Q.ws c = V.ws.findIdx? (pW c) := by
  unfold Go.AM.X.inW
  rw [h.ws, List.findIdx?_map]; rfl
theorem Rel.inS {t : Nat} {V : Vp} {Q : Tp} (h : Rel t V Q) (c : Int) : inS Q.ss c = V.ss.findIdx? (fun s => decide (s.c = c)) := by
  unfold Go.AM.X.inS
  rw [h.ss, List.findIdx?_map]; rfl
theorem any_find {α : Type} {p : α → Bool} {l : List α} : l.any p = true ↔ l.findIdx? p ≠ none := by
  rw [Ne, List.findIdx?_eq_none_iff, List.any_eq_true]
  constructor
  · rintro ⟨x, hx, hp⟩ h
    have := h x hx
    rw [hp] at this; cases this
  · intro h
    refine Decidable.byContradiction fun g => h fun x hx => ?_
    cases hp : p x with
    | false => rfl
    | true => exact absurd ⟨x, hx, hp⟩ g
/-! Want. -/
theorem Rel.wantE {t s n : Nat} {V : Vp} {Q : Tp} (h : Rel t V Q) (hI : Inv n s V) (c w : Int) (b b2 : AV) : wantET Q ⟨c, w, b2⟩ = wantEV V ⟨c, w, b⟩ := by
  unfold wantET wantEV
  have e1 : Go.AM.X.inS Q.ss c ≠ none ∨ Go.AM.X.inW Q.ws c ≠ none ↔ V.ws.any (pW c) = true ∨ V.ss.any (fun s => decide (s.c = c)) = true := by
    rw [h.inS, h.inW, any_find, any_find]; exact Or.comm
  have hl : Q.ws.length = V.ws.length := by rw [h.ws, List.length_map]
  have hw := hI.wl
  by_cases g : V.ws.any (pW c) = true ∨ V.ss.any (fun s => decide (s.c = c)) = true
  · rw [if_pos (e1.2 g), if_pos g]
  · rw [if_neg (fun k => g (e1.1 k)), if_neg g, hl]
    by_cases g2 : V.ws.length = 100
    · rw [if_pos (by omega), if_pos g2]
    · rw [if_neg (by omega), if_neg g2]
theorem Rel.wantP {t s n : Nat} {V : Vp} {Q : Tp} (h : Rel t V Q) (hI : Inv n s V) (c w : Int) (b : AV) (hw : 0 ≤ w ∧ w ≤ 100000) (hc : big c) (hb : c = 0 → b = .ptr s 0) :
    Rel t { V with ws := wantPV V ⟨c, w, b⟩ } { Q with ws := wantPT Q (mapC t ⟨c, w, b⟩) } ∧ Inv n s { V with ws := wantPV V ⟨c, w, b⟩ } := by
  have hE := h.wantE hI c w b (mapC t ⟨c, w, b⟩).b
  unfold wantPT wantPV
  rw [show wantET Q (mapC t ⟨c, w, b⟩) = wantEV V ⟨c, w, b⟩ from hE]
  by_cases h0 : wantEV V ⟨c, w, b⟩ = 0
  rotate_left
  · rw [if_neg h0, if_neg h0]; exact ⟨⟨h.q, h.r, h.ws, h.ss, h.js, h.qs⟩, hI⟩
  rw [if_pos h0, if_pos h0]
  refine ⟨⟨h.q, h.r, by show _ = (V.ws ++ [_]).map _; rw [h.ws, List.map_append]; rfl, h.ss, h.js, h.qs⟩, ?_⟩
  unfold wantEV at h0
  have h3 : ¬ (V.ws.any (pW c) = true ∨ V.ss.any (fun s => decide (s.c = c)) = true) := fun g => by rw [if_pos g] at h0; exact absurd h0 (by decide)
  rw [if_neg h3] at h0
  have h4 : ¬ V.ws.length = 100 := fun g => by rw [if_pos g] at h0; exact absurd h0 (by decide)
  refine { q := hI.q, r := hI.r, wb := fun x hx => ?_, sb := hI.sb, nd := ?_, wl := ?_, sl := hI.sl, jl := hI.jl, jd := hI.jd, lf := hI.lf }
  · rcases List.mem_append.1 hx with g | g
    · exact hI.wb x g
    · rw [List.mem_singleton.1 g]; exact ⟨⟨hw.1, by show w ≤ _; omega⟩, hc, hb⟩
  · show ((V.ws ++ [(⟨c, w, b⟩ : Wt)]).map Wt.c ++ V.ss.map Vs.c).Nodup
    rw [List.map_append, List.map_cons, List.map_nil, List.append_assoc]
    have hp : (c :: (V.ws.map Wt.c ++ V.ss.map Vs.c)).Perm (V.ws.map Wt.c ++ ([c] ++ V.ss.map Vs.c)) := List.perm_middle.symm
    refine (hp.nodup_iff).1 (List.nodup_cons.2 ⟨fun hm => h3 ?_, hI.nd⟩)
    rcases List.mem_append.1 hm with g | g
    · obtain ⟨x, hx, hxc⟩ := List.mem_map.1 g
      exact .inl (List.any_eq_true.2 ⟨x, hx, by unfold pW; simpa using hxc⟩)
    · obtain ⟨x, hx, hxc⟩ := List.mem_map.1 g
      exact .inr (List.any_eq_true.2 ⟨x, hx, by simpa using hxc⟩)
  · show (V.ws ++ [(⟨c, w, b⟩ : Wt)]).length ≤ 100
    have := hI.wl
    rw [List.length_append]; simp; omega
theorem Rel.Want {t s n : Nat} {V : Vp} {Q : Tp} (h : Rel t V Q) (hI : Inv n s V) (c w : Int) (hc : big c) : WantET Q c w = WantEV V c w ∧ Rel t { V with ws := WantPV V c w } { Q with ws := WantPT Q c w } ∧ Inv n s { V with ws := WantPV V c w } := by
  unfold WantET WantEV WantPV WantPT
  by_cases h1 : c < 1 ∨ within w 0 100000 = false
  · simp only [if_pos h1]
    exact ⟨trivial, ⟨h.q, h.r, h.ws, h.ss, h.js, h.qs⟩, hI⟩
  · simp only [if_neg h1]
    have hw : 0 ≤ w ∧ w ≤ 100000 := by
      cases hx : within w 0 100000
      · exact absurd (.inr hx) h1
      · unfold within at hx; simpa using hx
    have hc0 : ¬ c = 0 := fun g => h1 (.inl (by omega))
    have hm : mapC t ⟨c, w, .nilp⟩ = ⟨c, w, .nilp⟩ := by unfold mapC; simp only [if_neg hc0]
    have hP := h.wantP hI c w .nilp hw hc (fun g => absurd g hc0)
    rw [hm] at hP
    exact ⟨h.wantE hI c w .nilp .nilp, hP⟩
/-! Give. -/
theorem erase_sub {α : Type} (l : List α) (i : Nat) : (l.eraseIdx i).Sublist l := List.eraseIdx_sublist l i
theorem Rel.Give {t s n : Nat} {V : Vp} {Q : Tp} (h : Rel t V Q) (hI : Inv n s V) (c : Int) : (giveO Q c).1 = (giveV V c).1 ∧ Rel t (giveV V c).2 (giveO Q c).2 ∧ Inv n s (giveV V c).2 := by
  unfold giveO giveV
  rw [h.inS, h.inW]
  by_cases h1 : c < 1
  · simp only [if_pos h1]; exact ⟨trivial, h, hI⟩
  simp only [if_neg h1]
  have hdis : ∀ i j, V.ws.findIdx? (pW c) = some i → V.ss.findIdx? (fun s => decide (s.c = c)) = some j → False := fun i j hi hj => by
    obtain ⟨a1, a2, _⟩ := List.findIdx?_eq_some_iff_getElem.1 hi
    obtain ⟨b1', b2', _⟩ := List.findIdx?_eq_some_iff_getElem.1 hj
    have e1 : (V.ws[i]).c = c := by unfold pW at a2; simpa using a2
    have e2 : (V.ss[j]).c = c := of_decide_eq_true b2'
    exact (List.nodup_append.1 hI.nd).2.2 c (by rw [← e1]; exact List.mem_map_of_mem (List.getElem_mem a1)) c (by rw [← e2]; exact List.mem_map_of_mem (List.getElem_mem b1')) rfl
  cases hw : V.ws.findIdx? (pW c) with
  | some i =>
    cases hs : V.ss.findIdx? (fun s => decide (s.c = c)) with
    | some j => exact (hdis i j hw hs).elim
    | none =>
      refine ⟨rfl, ⟨h.q, h.r, by show Q.ws.eraseIdx i = (V.ws.eraseIdx i).map _; rw [h.ws, map_eraseIdx], h.ss, h.js, h.qs⟩, ?_⟩
      exact { q := hI.q, r := hI.r, wb := fun w hw => hI.wb w (mem_erase hw), sb := hI.sb, nd := hI.nd.sublist (List.Sublist.append_right ((erase_sub _ _).map _) _), wl := Nat.le_trans (erase_sub _ _).length_le hI.wl, sl := hI.sl, jl := hI.jl, jd := hI.jd, lf := hI.lf }
  | none =>
    cases hs : V.ss.findIdx? (fun s => decide (s.c = c)) with
    | some j =>
      refine ⟨rfl, ⟨h.q, h.r, h.ws, by show Q.ss.eraseIdx j = (V.ss.eraseIdx j).map _; rw [h.ss, map_eraseIdx], h.js, h.qs⟩, ?_⟩
      exact { q := hI.q, r := hI.r, wb := hI.wb, sb := fun x hx => hI.sb x (mem_erase hx), nd := hI.nd.sublist (List.Sublist.append_left ((erase_sub _ _).map _) _), wl := hI.wl, sl := by have := (erase_sub V.ss j).length_le; have := hI.sl; show (((V.ss.eraseIdx j).length : Nat) : Int) ≤ max V.r 1; omega, jl := hI.jl, jd := hI.jd, lf := hI.lf }
    | none => exact ⟨rfl, h, hI⟩
end Go.AM.X
namespace Go.AM.X
open Go Go.AM Go.Proofs Go.AM.Sx
set_option maxHeartbeats 1600000
set_option maxRecDepth 100000
set_option linter.unusedVariables false
theorem serve_perm : ∀ (k : Nat) (ws : List Wt), ((serveL k ws).1 ++ (serveL k ws).2).Perm ws ∧ (serveL k ws).1.length ≤ k
  | 0, ws => ⟨by simp [serveL], by simp [serveL]⟩
  | k + 1, ws => by
    by_cases h : ws = []
    · subst h; exact ⟨by simp [serveL], by simp [serveL]⟩
    · rw [serveL, if_neg h]
      obtain ⟨h1, h2⟩ := serve_perm k (ws.eraseIdx (best ws))
      have hl : 0 < ws.length := List.length_pos_iff.2 h
      have hb : best ws < ws.length := bestAt_lt ws _ hl
      refine ⟨?_, by simp; omega⟩
      have he : ws[best ws]? = some ws[best ws] := List.getElem?_eq_getElem hb
      rw [he]
      show (ws[best ws] :: ((serveL k (ws.eraseIdx (best ws))).1 ++ (serveL k (ws.eraseIdx (best ws))).2)).Perm ws
      refine ((List.perm_cons _).2 h1).trans ?_
      have hcut : ws = ws.take (best ws) ++ ws[best ws] :: ws.drop (best ws + 1) := by rw [List.getElem_cons_drop, List.take_append_drop]
      rw [List.eraseIdx_eq_take_drop_succ]
      conv => rhs; rw [hcut]
      exact List.perm_middle.symm
theorem bestAt_map (f : Wt → Wt) (hf : ∀ w, (f w).w = w.w) (ws : List Wt) : ∀ i, bestAt (ws.map f) i = bestAt ws i
  | 0 => rfl
  | i + 1 => by
    have hw : ∀ k, wAt (ws.map f) k = wAt ws k := fun k => by
      unfold wAt
      rw [List.getElem?_map]
      cases ws[k]? with
      | none => rfl
      | some w => simp [hf]
    rw [bestAt, bestAt, bestAt_map f hf ws i, hw, hw]
theorem serve_map (f : Wt → Wt) (hf : ∀ w, (f w).w = w.w) : ∀ (k : Nat) (ws : List Wt), serveL k (ws.map f) = ((serveL k ws).1.map f, (serveL k ws).2.map f)
  | 0, ws => rfl
  | k + 1, ws => by
    by_cases h : ws = []
    · subst h; simp [serveL]
    · have h' : ¬ ws.map f = [] := fun g => h (List.map_eq_nil_iff.1 g)
      rw [serveL, if_neg h', serveL, if_neg h]
      have hb : best (ws.map f) = best ws := by unfold best; rw [List.length_map]; exact bestAt_map f hf ws _
      have hlt : best ws < ws.length := bestAt_lt ws _ (List.length_pos_iff.2 h)
      rw [hb, ← map_eraseIdx, serve_map f hf k, List.getElem?_map, List.getElem?_eq_getElem hlt]
      rfl
theorem keptT_map {t s n : Nat} {V : Vp} {Q : Tp} (h : Rel t V Q) (hI : Inv n s V) : keptT Q = (keptV V).map (mapS t) := by
  unfold keptT keptV
  rw [h.ss, List.map_map, List.filter_map, List.filter_map, List.map_map]
  have e1 : incT ∘ mapS t = mapS t ∘ incV := rfl
  rw [e1]
  congr 1
  refine List.filter_congr fun x hx => ?_
  have hs := (hI.sb x hx).2.1
  show decide (x.s + 1 < 30) = !decide (x.s + 1 = 30)
  by_cases g : x.s + 1 = 30
  · rw [decide_eq_true g, decide_eq_false (by omega)]; rfl
  · rw [decide_eq_false g, decide_eq_true (by omega)]; rfl
theorem Rel.Tick {t s n : Nat} {V : Vp} {Q : Tp} (h : Rel t V Q) (hI : Inv n s V) : Rel t (tickV V) (tickT Q) ∧ Inv (n + 1) s (tickV V) := by
  have hk := keptT_map h hI
  have hfr : freeT Q = freeV V := by
    unfold freeT freeV
    rw [hk, List.length_map, h.r]
  have hm : Q.ws.map incW = (V.ws.map incW).map (mapC t) := by rw [h.ws, List.map_map, List.map_map]; rfl
  have hsv := serve_map (mapC t) (fun _ => rfl) (freeV V) (V.ws.map incW)
  obtain ⟨hp, hl⟩ := serve_perm (freeV V) (V.ws.map incW)
  obtain ⟨A, hA⟩ : ∃ A, A = (serveL (freeV V) (V.ws.map incW)).1 := ⟨_, rfl⟩
  obtain ⟨B, hB⟩ : ∃ B, B = (serveL (freeV V) (V.ws.map incW)).2 := ⟨_, rfl⟩
  have hT : tickV V = { V with ws := B, ss := keptV V ++ A.map newV } := by unfold tickV; rw [hA, hB]
  have hT2 : tickT Q = { Q with ws := B.map (mapC t), ss := (keptV V).map (mapS t) ++ (A.map (mapC t)).map newT } := by
    unfold tickT; rw [hfr, hm, hsv, hk, hA, hB]
  rw [← hA, ← hB] at hp
  rw [← hA] at hl
  rw [hT, hT2]
  have hnew : (A.map (mapC t)).map newT = (A.map newV).map (mapS t) := by rw [List.map_map, List.map_map]; rfl
  refine ⟨⟨h.q, h.r, rfl, by show _ = (keptV V ++ A.map newV).map (mapS t); rw [List.map_append, hnew], h.js, h.qs⟩, ?_⟩
  have hin : ∀ w, w ∈ A ++ B → ∃ w0 ∈ V.ws, w.c = w0.c ∧ w.w = w0.w + 1 ∧ w.b = w0.b := fun w hw => by
    obtain ⟨w0, h1, rfl⟩ := List.mem_map.1 (hp.mem_iff.1 hw)
    exact ⟨w0, h1, rfl, rfl, rfl⟩
  have hcl : ((A ++ B).map Wt.c).Perm (V.ws.map Wt.c) := by
    have := hp.map Wt.c
    rw [List.map_map] at this
    exact this
  have hkm : ∀ x ∈ keptV V, ∃ x0 ∈ V.ss, x = incV x0 ∧ ¬ x.s = 30 := fun x hx => by
    obtain ⟨h1, h2⟩ := List.mem_filter.1 hx
    obtain ⟨x0, h3, rfl⟩ := List.mem_map.1 h1
    exact ⟨x0, h3, rfl, by unfold keepV at h2; simpa using h2⟩
  have hks : ((keptV V).map Vs.c).Sublist (V.ss.map Vs.c) := by
    have h1 : ((V.ss.map incV).filter keepV).Sublist (V.ss.map incV) := List.filter_sublist
    have h2 := h1.map Vs.c
    rw [List.map_map] at h2
    exact h2
  have hbl : B.length ≤ V.ws.length := by
    have := hp.length_eq
    rw [List.length_append, List.length_map] at this; omega
  refine { q := hI.q, r := hI.r, wb := fun w hw => ?_, sb := fun x hx => ?_, nd := ?_, wl := Nat.le_trans hbl hI.wl, sl := ?_, jl := Nat.le_succ_of_le hI.jl, jd := hI.jd, lf := hI.lf }
  · obtain ⟨w0, h1, h2, h3, h4⟩ := hin w (List.mem_append.2 (.inr hw))
    obtain ⟨h5, h6, h7⟩ := hI.wb w0 h1
    rw [h2, h3, h4]
    exact ⟨by omega, h6, h7⟩
  · rcases List.mem_append.1 hx with g | g
    · obtain ⟨x0, h1, rfl, h2⟩ := hkm x g
      obtain ⟨h5, h6, h7, h8, h9⟩ := hI.sb x0 h1
      have e : (incV x0).s = x0.s + 1 := rfl
      exact ⟨h5, by rw [e] at h2 ⊢; omega, h7, h8, h9⟩
    · obtain ⟨w, hw, rfl⟩ := List.mem_map.1 g
      obtain ⟨w0, h1, h2, h3, h4⟩ := hin w (List.mem_append.2 (.inl hw))
      obtain ⟨h5, h6, h7⟩ := hI.wb w0 h1
      exact ⟨⟨Int.le_refl 0, (by decide : (0 : Int) ≤ 255)⟩, ⟨Int.le_refl 0, (by decide : (0 : Int) ≤ 29)⟩, Nat.zero_le _, by show big w.c; rw [h2]; exact h6, by show w.c = 0 → w.b = _; rw [h2, h4]; exact h7⟩
  · show (B.map Wt.c ++ (keptV V ++ A.map newV).map Vs.c).Nodup
    rw [List.map_append, List.map_map]
    have e1 : Vs.c ∘ newV = Wt.c := rfl
    rw [e1]
    have p1 : (B.map Wt.c ++ ((keptV V).map Vs.c ++ A.map Wt.c)).Perm ((A.map Wt.c ++ B.map Wt.c) ++ (keptV V).map Vs.c) := by
      have g1 : (B.map Wt.c ++ ((keptV V).map Vs.c ++ A.map Wt.c)).Perm (B.map Wt.c ++ (A.map Wt.c ++ (keptV V).map Vs.c)) := List.Perm.append_left _ List.perm_append_comm
      refine g1.trans ?_
      have g2 : ((B.map Wt.c ++ A.map Wt.c) ++ (keptV V).map Vs.c).Perm ((A.map Wt.c ++ B.map Wt.c) ++ (keptV V).map Vs.c) := List.Perm.append_right _ List.perm_append_comm
      rw [List.append_assoc] at g2
      exact g2
    rw [← List.map_append] at p1
    have p2 := p1.trans (List.Perm.append_right _ hcl)
    exact p2.nodup_iff.2 (hI.nd.sublist (List.Sublist.append_left hks _))
  · show (((keptV V ++ A.map newV).length : Nat) : Int) ≤ max V.r 1
    have hkl : ((keptV V).length : Int) ≤ max V.r 1 := by
      have h1 := hks.length_le
      rw [List.length_map, List.length_map] at h1
      have := hI.sl; omega
    rw [List.length_append, List.length_map]
    unfold freeV at hl
    omega
/-! Pieces. -/
theorem befT_q {q : Int} (hq : 0 ≤ q ∧ q ≤ 255) (n : Int) (hn : 1 ≤ n) : (n = befT (q % 255 + 1) ∧ decide (q ≠ 0) = true) ↔ n = q := by
  unfold befT
  rw [decide_eq_true_eq]
  have e : q % 255 + 1 - 1 = q % 255 := by omega
  rw [e]
  by_cases h0 : q % 255 = 0
  · rw [if_pos h0]
    constructor
    · rintro ⟨h1, h2⟩; omega
    · intro h; exact ⟨by omega, by omega⟩
  · rw [if_neg h0]
    constructor
    · rintro ⟨h1, h2⟩; omega
    · intro h; exact ⟨by omega, by omega⟩
theorem nd_at {l : List Vs} (h : (l.map Vs.c).Nodup) {i : Nat} {x : Vs} (hs : l[i]? = some x) : ∀ y ∈ l.eraseIdx i, y ∈ l ∧ y.c ≠ x.c := by
  intro y hy
  obtain ⟨hi, he⟩ := List.getElem?_eq_some_iff.1 hs
  have hcut : l = l.take i ++ x :: l.drop (i + 1) := by rw [← he, List.getElem_cons_drop, List.take_append_drop]
  rw [List.eraseIdx_eq_take_drop_succ] at hy
  rw [hcut, List.map_append, List.map_cons] at h
  have hp : (l.take i ++ x :: l.drop (i + 1)).Perm (x :: (l.take i ++ l.drop (i + 1))) := List.perm_middle
  refine ⟨by rw [hcut]; exact hp.mem_iff.2 (List.mem_cons_of_mem _ hy), fun hc => ?_⟩
  have h2 := ((hp.map Vs.c).nodup_iff).1 (by rw [List.map_append, List.map_cons]; exact h)
  exact (List.nodup_cons.1 h2).1 (by rw [← hc]; exact List.mem_map_of_mem hy)
theorem Rel.sendI {t s n : Nat} {V : Vp} {Q : Tp} (h : Rel t V Q) (hI : Inv n s V) {i : Nat} {x : Vs} (hx : V.ss[i]? = some x) (N : Int) (hN : 1 ≤ N) (new : List Int) (en : Bool) :
    (sendT Q x.c i N new en).1 = (sendV V i N new en).1 ∧ Rel t (sendV V i N new en).2 (sendT Q x.c i N new en).2 ∧ Inv (n + 1) s (sendV V i N new en).2 := by
  have hxm := List.mem_of_getElem? hx
  obtain ⟨h1, h2, h3, h4, h5⟩ := hI.sb x hxm
  have hI1 := hI.mono (Nat.le_succ n)
  have hQx : Q.ss[i]? = some (mapS t x) := by rw [h.ss, List.getElem?_map, hx]; rfl
  have hil := (List.getElem?_eq_some_iff.1 hx).1
  have eV : sendV V i N new en = if N = x.q then (0, { V with ss := V.ss.set i { x with s := 0 } })
    else if ¬ N = x.q % 255 + 1 then (90, V)
    else if 5000 < x.d.length + new.length then (4, { V with ss := V.ss.eraseIdx i })
    else if en = true then (0, { V with ss := V.ss.eraseIdx i, js := V.js ++ [(x.c, x.d ++ new)] })
    else (0, { V with ss := V.ss.set i { x with q := N, s := 0, d := x.d ++ new } }) := by unfold sendV; rw [hx]
  have eT : sendT Q x.c i N new en = if N = befT (x.q % 255 + 1) ∧ decide (x.q ≠ 0) = true then (0, { Q with ss := Q.ss.set i { mapS t x with s := 0 } })
    else if ¬ N = x.q % 255 + 1 then (90, Q)
    else if 5000 < x.d.length + new.length then (4, { Q with ss := Q.ss.eraseIdx i })
    else if en = true then (0, { Q with ss := Q.ss.eraseIdx i, js := Q.js ++ [(x.c, x.d ++ new)], qs := if 0 < Q.r then Q.qs ++ [(x.c, x.d ++ new)] else Q.qs })
    else (0, { Q with ss := Q.ss.set i { mapS t x with d := x.d ++ new, k := true, s := 0, n := (x.q % 255 + 1) % 255 + 1 } }) := by unfold sendT; rw [hQx]; rfl
  have setI : ∀ y : Vs, y.c = x.c → y.b = x.b → (0 ≤ y.q ∧ y.q ≤ 255) → (0 ≤ y.s ∧ y.s ≤ 29) → y.d.length ≤ 5000 → Inv (n + 1) s { V with ss := V.ss.set i y } := fun y e1 e2 e3 e4 e5 => by
    have hc : (V.ss.set i y).map Vs.c = V.ss.map Vs.c := by
      rw [List.map_set, e1]
      have : x.c = (V.ss.map Vs.c)[i]'(by rw [List.length_map]; exact hil) := by rw [List.getElem_map, (List.getElem?_eq_some_iff.1 hx).2]
      conv => lhs; rw [this]
      exact List.set_getElem_self _
    exact { q := hI1.q, r := hI1.r, wb := hI1.wb, sb := fun z hz => by
              rcases List.mem_or_eq_of_mem_set hz with g | g
              · exact hI1.sb z g
              · rw [g]; exact ⟨e3, e4, e5, by rw [e1]; exact h4, by rw [e1, e2]; exact h5⟩
            nd := by show (V.ws.map Wt.c ++ (V.ss.set i y).map Vs.c).Nodup; rw [hc]; exact hI1.nd
            wl := hI1.wl, sl := by show (((V.ss.set i y).length : Nat) : Int) ≤ max V.r 1; rw [List.length_set]; exact hI1.sl
            jl := hI1.jl, jd := hI1.jd, lf := hI1.lf }
  have erI : Inv (n + 1) s { V with ss := V.ss.eraseIdx i } :=
    { q := hI1.q, r := hI1.r, wb := hI1.wb, sb := fun z hz => hI1.sb z (mem_erase hz), nd := hI1.nd.sublist (List.Sublist.append_left ((erase_sub _ _).map _) _), wl := hI1.wl, sl := by have := (erase_sub V.ss i).length_le; have := hI1.sl; show (((V.ss.eraseIdx i).length : Nat) : Int) ≤ max V.r 1; omega, jl := hI1.jl, jd := hI1.jd, lf := hI1.lf }
  have erS : Q.ss.eraseIdx i = (V.ss.eraseIdx i).map (mapS t) := by rw [h.ss, map_eraseIdx]
  rw [eV, eT]
  by_cases g1 : N = x.q
  · rw [if_pos g1, if_pos ((befT_q h1 N hN).2 g1)]
    refine ⟨rfl, ⟨h.q, h.r, h.ws, ?_, h.js, h.qs⟩, setI _ rfl rfl h1 ⟨Int.le_refl 0, (by decide : (0 : Int) ≤ 29)⟩ h3⟩
    show Q.ss.set i _ = (V.ss.set i _).map (mapS t)
    rw [h.ss, List.map_set]; rfl
  rw [if_neg g1, if_neg (fun g => g1 ((befT_q h1 N hN).1 g))]
  by_cases g2 : N = x.q % 255 + 1
  rotate_left
  · rw [if_pos g2, if_pos g2]; exact ⟨rfl, h, hI1⟩
  have gn : ¬ ¬ N = x.q % 255 + 1 := fun g => g g2
  rw [if_neg gn, if_neg gn]
  by_cases g3 : 5000 < x.d.length + new.length
  · rw [if_pos g3, if_pos g3]; exact ⟨rfl, ⟨h.q, h.r, h.ws, erS, h.js, h.qs⟩, erI⟩
  rw [if_neg g3, if_neg g3]
  cases en with
  | true =>
    rw [if_pos rfl, if_pos rfl]
    refine ⟨rfl, ⟨h.q, h.r, h.ws, erS, by show Q.js ++ _ = V.js ++ _; rw [h.js], ?_⟩, { q := erI.q, r := erI.r, wb := erI.wb, sb := erI.sb, nd := erI.nd, wl := erI.wl, sl := erI.sl, jl := ?_, jd := fun j hj => ?_, lf := ?_ }⟩
    · show (if 0 < Q.r then Q.qs ++ [(x.c, x.d ++ new)] else Q.qs) = if 0 < V.r then (V.js ++ [(x.c, x.d ++ new)]).drop V.lf.toNat else []
      rw [h.r, h.qs]
      have hlf := hI.lf
      by_cases hr : 0 < V.r
      · simp only [if_pos hr]
        rw [List.drop_append_of_le_length (by omega)]
      · simp only [if_neg hr]
    · show (V.js ++ [(x.c, x.d ++ new)]).length ≤ n + 1
      have := hI.jl
      rw [List.length_append]; simp; omega
    · rcases List.mem_append.1 hj with g | g
      · exact hI.jd j g
      · rw [List.mem_singleton.1 g]
        show (x.d ++ new).length ≤ 5000
        rw [List.length_append]; omega
    · show 0 ≤ V.lf ∧ V.lf ≤ (((V.js ++ [(x.c, x.d ++ new)]).length : Nat) : Int)
      have := hI.lf
      rw [List.length_append]; simp; omega
  | false =>
    rw [if_neg (by simp), if_neg (by simp)]
    refine ⟨rfl, ⟨h.q, h.r, h.ws, ?_, h.js, h.qs⟩, setI _ rfl rfl ⟨by show 0 ≤ N; omega, by show N ≤ 255; omega⟩ ⟨Int.le_refl 0, (by decide : (0 : Int) ≤ 29)⟩ (by show (x.d ++ new).length ≤ 5000; rw [List.length_append]; omega)⟩
    show Q.ss.set i _ = (V.ss.set i _).map (mapS t)
    rw [h.ss, List.map_set]
    congr 1
    unfold mapS
    have : decide (N ≠ 0) = true := by simp; omega
    simp only [this]
    rw [g2]
theorem Rel.bar {t : Nat} {V : Vp} {Q : Tp} (h : Rel t V Q) (c N : Int) (k : Nat) (en : Bool) (hc : ¬ c < 1) {i : Nat} (hi : V.ss.findIdx? (fun s => decide (s.c = c)) = some i) : barV V c N k en = if barT Q N k en = true then some 2 else none := by
  unfold barV barT
  rw [if_neg (fun g => g.elim hc (fun g => by rw [hi] at g; cases g)), h.q]
  have e : (V.q < (k : Int) ∨ (k = 0 ∧ en = false) ∨ within N 1 255 = false) ↔ (decide (V.q < (k : Int)) || (decide (k = 0) && !en) || decide (N < 1) || decide (255 < N)) = true := by
    unfold within
    simp only [Bool.or_eq_true, Bool.and_eq_true, decide_eq_true_eq, Bool.not_eq_true', Bool.and_eq_false_iff, decide_eq_false_iff_not]
    constructor
    · rintro (g | g | g | g)
      · exact .inl (.inl (.inl g))
      · exact .inl (.inl (.inr g))
      · exact .inl (.inr (by omega))
      · exact .inr (by omega)
    · rintro (((g | g) | g) | g)
      · exact .inl g
      · exact .inr (.inl g)
      · exact .inr (.inr (.inl (by omega)))
      · exact .inr (.inr (.inr (by omega)))
  by_cases g : V.q < (k : Int) ∨ (k = 0 ∧ en = false) ∨ within N 1 255 = false
  · rw [if_pos g, if_pos (e.1 g)]
  · rw [if_neg g, if_neg (fun k => g (e.2 k))]
theorem Rel.Send {t s n : Nat} {V : Vp} {Q : Tp} (h : Rel t V Q) (hI : Inv n s V) (c N : Int) (new : List Int) (en : Bool) :
    (if c < 1 then ((5 : Int), Q) else SendT Q c N new en).1 = (SendV V c N new en).1 ∧ Rel t (SendV V c N new en).2 (if c < 1 then ((5 : Int), Q) else SendT Q c N new en).2 ∧ Inv (n + 1) s (SendV V c N new en).2 := by
  have hI1 := hI.mono (Nat.le_succ n)
  by_cases hc : c < 1
  · have hb : barV V c N new.length en = some 5 := by unfold barV; rw [if_pos (.inl hc)]
    have e : SendV V c N new en = (5, V) := by unfold SendV; rw [hb]
    rw [if_pos hc, e]
    exact ⟨rfl, h, hI1⟩
  rw [if_neg hc]
  unfold SendT
  rw [h.inS]
  cases hi : V.ss.findIdx? (fun s => decide (s.c = c)) with
  | none =>
    have hb : barV V c N new.length en = some 5 := by unfold barV; rw [if_pos (.inr hi)]
    have e : SendV V c N new en = (5, V) := by unfold SendV; rw [hb]
    rw [e]
    exact ⟨rfl, h, hI1⟩
  | some i =>
    have hb := h.bar c N new.length en hc hi
    obtain ⟨a1, a2, _⟩ := List.findIdx?_eq_some_iff_getElem.1 hi
    have hx : V.ss[i]? = some V.ss[i] := List.getElem?_eq_getElem a1
    have hxc : (V.ss[i]).c = c := of_decide_eq_true a2
    show (if barT Q N new.length en = true then ((2 : Int), Q) else sendT Q c i N new en).1 = _ ∧ Rel t _ (if barT Q N new.length en = true then ((2 : Int), Q) else sendT Q c i N new en).2 ∧ _
    by_cases hbt : barT Q N new.length en = true
    · rw [if_pos hbt] at hb
      have e : SendV V c N new en = (2, V) := by unfold SendV; rw [hb]
      rw [e, if_pos hbt]
      exact ⟨rfl, h, hI1⟩
    · rw [if_neg hbt] at hb
      have e : SendV V c N new en = sendV V i N new en := by unfold SendV; rw [hb, hi]
      rw [e, if_neg hbt]
      have hN : 1 ≤ N := by
        refine Decidable.byContradiction fun g => hbt ?_
        unfold barT
        rw [decide_eq_true (show N < 1 by omega)]; simp
      have := h.sendI hI hx N hN new en
      rw [hxc] at this
      exact this
end Go.AM.X
namespace Go.AM.X
open Go Go.AM Go.Proofs Go.AM.Sx
set_option maxHeartbeats 1600000
set_option maxRecDepth 100000
set_option linter.unusedVariables false
/-- The service that the spooler has at the printer. -/
def SvOk (S : Vp) (U : Tp) (x : Vs) : Prop := (x.q = 0 → x.d = []) ∧ (x.q ≠ 0 → x.j = S.lf ∧ U.ap = (x.d.length : Nat) ∧ U.sq = x.q % 255 + 1 ∧ ∃ j, S.js[S.lf.toNat]? = some j ∧ x.d.length ≤ j.2.length)
structure Pair (n s t : Nat) (V S : Vp) (Q U : Tp) : Prop where
  a : Rel t V Q
  b : Rel t S U
  ia : Inv n s V
  ib : Inv n s S
  sr : 1 ≤ S.r
  sv : ∀ x ∈ V.ss, x.c = 0 → SvOk S U x
theorem Pair.stepV {n n2 s t : Nat} {V S V2 : Vp} {Q U Q2 : Tp} (h : Pair n s t V S Q U) (hn : n ≤ n2) (ha : Rel t V2 Q2) (hi : Inv n2 s V2) (hs : ∀ x ∈ V2.ss, x.c = 0 → (x.q = 0 ∧ x.d = []) ∨ ∃ y ∈ V.ss, y.c = 0 ∧ x.q = y.q ∧ x.d = y.d ∧ x.j = y.j) : Pair n2 s t V2 S Q2 U :=
  { a := ha, b := h.b, ia := hi, ib := h.ib.mono hn, sr := h.sr, sv := fun x hx hc => by
      rcases hs x hx hc with ⟨e1, e2⟩ | ⟨y, hy, hyc, e1, e2, e3⟩
      · exact ⟨fun _ => e2, fun g => absurd e1 g⟩
      · have := h.sv y hy hyc
        unfold SvOk at this ⊢
        rw [e1, e2, e3]; exact this }
theorem Pair.stepS {n n2 s t : Nat} {V S S2 : Vp} {Q U U2 : Tp} (h : Pair n s t V S Q U) (hn : n ≤ n2) (hb : Rel t S2 U2) (hi : Inv n2 s S2) (hr : S2.r = S.r) (hl : S2.lf = S.lf) (hj : ∃ l, S2.js = S.js ++ l) (e1 : U2.ap = U.ap) (e2 : U2.sq = U.sq) : Pair n2 s t V S2 Q U2 :=
  { a := h.a, b := hb, ia := h.ia.mono hn, ib := hi, sr := by rw [hr]; exact h.sr, sv := fun x hx hc => by
      obtain ⟨g1, g2⟩ := h.sv x hx hc
      refine ⟨g1, fun g => ?_⟩
      obtain ⟨k1, k2, k3, j, k4, k5⟩ := g2 g
      obtain ⟨l, hl'⟩ := hj
      refine ⟨by rw [hl]; exact k1, by rw [e1]; exact k2, by rw [e2]; exact k3, j, ?_, k5⟩
      rw [hl, hl', List.getElem?_append_left (List.getElem?_eq_some_iff.1 k4).1]; exact k4 }
theorem Pair.Forward {n s t : Nat} {V S : Vp} {Q U : Tp} (h : Pair n s t V S Q U) :
    (fwT U Q t).1 = (fwV S V s).1 ∧ Pair (n + 1) s t (fwV S V s).2.2 { S with lf := (fwV S V s).2.1 } (fwT U Q t).2.2 (fwT U Q t).2.1 := by
  have hlf := h.ib.lf
  have hqs : U.qs = S.js.drop S.lf.toNat := by rw [h.b.qs, if_pos (by have := h.sr; omega)]
  have hm := h.stepV (Nat.le_succ n) h.a (h.ia.mono (Nat.le_succ n)) fun x hx hc => .inr ⟨x, hx, hc, rfl, rfl, rfl⟩
  have c1 : (((S.js.length : Nat) : Int) - S.lf = 0) ↔ U.qs = [] := by
    rw [hqs, List.drop_eq_nil_iff]; omega
  have c2 : V.ws.any (pW 0) = true ↔ inW Q.ws 0 ≠ none := by rw [any_find, h.a.inW]
  by_cases g : ((S.js.length : Nat) : Int) - S.lf = 0 ∨ V.ws.any (pW 0) = true
  · unfold fwV fwT
    rw [if_pos g, if_pos (g.imp c1.1 c2.1)]
    exact ⟨rfl, hm⟩
  have gq : ¬ ((S.js.length : Nat) : Int) - S.lf = 0 := fun k => g (.inl k)
  have gT : ¬ (U.qs = [] ∨ inW Q.ws 0 ≠ none) := fun k => g (k.imp c1.2 c2.2)
  have hll : S.lf.toNat < S.js.length := by omega
  cases hi : V.ss.findIdx? (fun s => decide (s.c = 0)) with
  | none =>
    have hw := h.a.wantP h.ia 0 0 (.ptr s 0) ⟨Int.le_refl 0, by decide⟩ ⟨by decide, by decide⟩ (fun _ => rfl)
    have e1 : mapC t ⟨0, 0, .ptr s 0⟩ = ⟨0, 0, .ptr t 0⟩ := rfl
    rw [e1] at hw
    unfold fwV fwT
    rw [if_neg g, if_neg gT, h.a.inS, hi]
    refine ⟨h.a.wantE h.ia 0 0 (.ptr s 0) (.ptr t 0), { a := hw.1, b := ⟨h.b.q, h.b.r, h.b.ws, h.b.ss, h.b.js, h.b.qs⟩, ia := hw.2.mono (Nat.le_succ n), ib := h.ib.mono (Nat.le_succ n), sr := h.sr, sv := fun x hx hc => ?_ }⟩
    have := List.findIdx?_eq_none_iff.1 hi x hx
    rw [decide_eq_true hc] at this; cases this
  | some i =>
    obtain ⟨a1, a2, _⟩ := List.findIdx?_eq_some_iff_getElem.1 hi
    obtain ⟨x, hx⟩ : ∃ x, V.ss[i]? = some x := ⟨V.ss[i], List.getElem?_eq_getElem a1⟩
    have hxc : x.c = 0 := by rw [(List.getElem?_eq_some_iff.1 hx).2] at a2; exact of_decide_eq_true a2
    have hxm := List.mem_of_getElem? hx
    have hsv := h.sv x hxm hxc
    have s1 := hsv.1
    obtain ⟨b1, b2, b3, b4, b5⟩ := h.ia.sb x hxm
    obtain ⟨j, hj⟩ : ∃ j, S.js[S.lf.toNat]? = some j := ⟨S.js[S.lf.toNat], List.getElem?_eq_getElem hll⟩
    have hjm := h.ib.jd j (List.mem_of_getElem? hj)
    have hdrop : S.js.drop S.lf.toNat = j :: S.js.drop (S.lf.toNat + 1) := by
      rw [List.drop_eq_getElem_cons hll, (List.getElem?_eq_some_iff.1 hj).2]
    have hQx : Q.ss[i]? = some (mapS t x) := by rw [h.a.ss, List.getElem?_map, hx]; rfl
    have hUq : U.qs = j :: S.js.drop (S.lf.toNat + 1) := by rw [hqs, hdrop]
    have hdl : x.d.length ≤ j.2.length := by
      by_cases h0 : x.q = 0
      · rw [s1 h0]; exact Nat.zero_le _
      · obtain ⟨_, _, _, j', k4, k5⟩ := hsv.2 h0
        rw [hj] at k4; cases k4; exact k5
    obtain ⟨x1, hx1⟩ : ∃ x1 : Vs, x1 = { x with j := S.lf } := ⟨_, rfl⟩
    have hV1 : (if x.j = S.lf then V else { V with ss := V.ss.set i { x with j := S.lf, d := [] } }) = { V with ss := V.ss.set i x1 } := by
      by_cases g2 : x.j = S.lf
      · have : x1 = x := by rw [hx1, ← g2]
        rw [if_pos g2, this, show V.ss.set i x = V.ss by
          rw [← (List.getElem?_eq_some_iff.1 hx).2]; exact List.set_getElem_self a1]
      · have hd0 : x.d = [] := s1 (Decidable.byContradiction fun k => g2 (hsv.2 k).1)
        rw [if_neg g2, hx1]
        congr 2
        rw [hd0]
    have hd : (if x.j = S.lf then x.d else []) = x.d := by
      by_cases g2 : x.j = S.lf
      · rw [if_pos g2]
      · rw [if_neg g2, s1 (Decidable.byContradiction fun k => g2 (hsv.2 k).1)]
    obtain ⟨Uq, hUqe⟩ : ∃ Uq : Tp, Uq = if (mapS t x).k = true then U else { U with ap := 0, sq := 1 } := ⟨_, rfl⟩
    have hUf : Uq.ap = (x.d.length : Nat) ∧ Uq.sq = x.q % 255 + 1 ∧ Uq.q = U.q ∧ Uq.r = U.r ∧ Uq.ws = U.ws ∧ Uq.ss = U.ss ∧ Uq.js = U.js ∧ Uq.qs = U.qs := by
      by_cases h0 : x.q = 0
      · have : (mapS t x).k = false := by unfold mapS; simp [h0]
        rw [hUqe, this, if_neg (by simp)]
        refine ⟨by rw [s1 h0]; rfl, by rw [h0]; rfl, rfl, rfl, rfl, rfl, rfl, rfl⟩
      · have : (mapS t x).k = true := by unfold mapS; simp [h0]
        rw [hUqe, this, if_pos rfl]
        obtain ⟨_, k2, k3, _⟩ := hsv.2 h0
        exact ⟨k2, k3, rfl, rfl, rfl, rfl, rfl, rfl⟩
    obtain ⟨f1, f2, f3, f4, f5, f6, f7, f8⟩ := hUf
    have hq := h.ia.q
    obtain ⟨b, hb⟩ : ∃ b, b = min (x.d.length + V.q.toNat) j.2.length := ⟨_, rfl⟩
    have hpn : pieceN Uq Q j.2.length = (b : Int) := by
      unfold pieceN
      rw [f1, h.a.q]
      split <;> omega
    obtain ⟨new, hnew⟩ : ∃ new, new = (j.2.drop x.d.length).take (b - x.d.length) := ⟨_, rfl⟩
    have hnl : new.length = b - x.d.length := by rw [hnew, List.length_take, List.length_drop]; omega
    obtain ⟨en, hen⟩ : ∃ en, en = decide (b = j.2.length) := ⟨_, rfl⟩
    have hen2 : decide ((b : Int) = (j.2.length : Int)) = en := by
      rw [hen]
      by_cases k : b = j.2.length
      · rw [decide_eq_true k, decide_eq_true (by omega)]
      · rw [decide_eq_false k, decide_eq_false (by omega)]
    obtain ⟨N, hN⟩ : ∃ N, N = x.q % 255 + 1 := ⟨_, rfl⟩
    -- the printer's side
    have hx1g : ({ V with ss := V.ss.set i x1 } : Vp).ss[i]? = some x1 := List.getElem?_set_self a1
    have e1c : x1.c = 0 := by rw [hx1]; exact hxc
    have hss1 : (V.ss.set i x1).map (mapS t) = V.ss.map (mapS t) := by
      rw [List.map_set]
      have : mapS t x1 = (V.ss.map (mapS t))[i]'(by rw [List.length_map]; exact a1) := by rw [List.getElem_map, (List.getElem?_eq_some_iff.1 hx).2, hx1]; rfl
      rw [this]; exact List.set_getElem_self _
    have hR1 : Rel t { V with ss := V.ss.set i x1 } Q := ⟨h.a.q, h.a.r, h.a.ws, by show _ = (V.ss.set i x1).map _; rw [hss1]; exact h.a.ss, h.a.js, h.a.qs⟩
    have hc1 : (V.ss.set i x1).map Vs.c = V.ss.map Vs.c := by
      rw [List.map_set]
      have : x1.c = (V.ss.map Vs.c)[i]'(by rw [List.length_map]; exact a1) := by rw [List.getElem_map, (List.getElem?_eq_some_iff.1 hx).2, hx1]
      rw [this]; exact List.set_getElem_self _
    have hI1 : Inv n s { V with ss := V.ss.set i x1 } :=
      { q := h.ia.q, r := h.ia.r, wb := h.ia.wb, sb := fun z hz => by
          rcases List.mem_or_eq_of_mem_set hz with k | k
          · exact h.ia.sb z k
          · rw [k, hx1]; exact h.ia.sb x hxm
        nd := by show (V.ws.map Wt.c ++ (V.ss.set i x1).map Vs.c).Nodup; rw [hc1]; exact h.ia.nd
        wl := h.ia.wl, sl := by show (((V.ss.set i x1).length : Nat) : Int) ≤ max V.r 1; rw [List.length_set]; exact h.ia.sl
        jl := h.ia.jl, jd := h.ia.jd, lf := h.ia.lf }
    obtain ⟨r1, r2, r3⟩ := hR1.sendI hI1 hx1g N (by omega) new en
    rw [e1c] at r1 r2
    have x1q : x1.q = x.q := by rw [hx1]
    have x1d : x1.d = x.d := by rw [hx1]
    have eV : sendV { V with ss := V.ss.set i x1 } i N new en = if en = true then (0, { V with ss := V.ss.eraseIdx i, js := V.js ++ [(0, x.d ++ new)] }) else (0, { V with ss := V.ss.set i { x1 with q := N, s := 0, d := x.d ++ new } }) := by
      unfold sendV
      rw [hx1g]
      simp only [x1q, x1d, e1c]
      rw [if_neg (by omega), if_neg (fun k => k hN), if_neg (by rw [hnl]; omega), erase_set, List.set_set]
    have er0 : (sendV { V with ss := V.ss.set i x1 } i N new en).1 = 0 := by rw [eV]; split <;> rfl
    have hST : SendT Q 0 N new en = sendT Q 0 i N new en := by
      unfold SendT
      rw [h.a.inS, hi]
      have hbar : barT Q N new.length en = false := by
        unfold barT
        rw [h.a.q, decide_eq_false (show ¬ V.q < ((new.length : Nat) : Int) by rw [hnl]; omega), decide_eq_false (show ¬ N < 1 by omega), decide_eq_false (show ¬ 255 < N by omega)]
        by_cases k : new.length = 0
        · have : en = true := by rw [hen, decide_eq_true]; omega
          rw [this]; simp
        · simp [k]
      simp only [hbar]
      rfl
    have hFV : fwV S V s = (0, if b = j.2.length then S.lf + 1 else S.lf, (sendV { V with ss := V.ss.set i x1 } i N new en).2) := by
      unfold fwV
      rw [if_neg g, hi]
      simp only [hx, hj]
      rw [hd, hV1, ← hb, ← hnew, ← hen, ← hN, er0]
      simp
    have hF1 : fwT1 Uq Q j (S.js.drop (S.lf.toNat + 1)) = (0, if b = j.2.length then { Uq with qs := S.js.drop (S.lf.toNat + 1), ap := 0, sq := 1 } else { Uq with ap := (b : Int), sq := N % 255 + 1 }, (sendT Q 0 i N new en).2) := by
      unfold fwT1
      simp only [hpn, f1, f2]
      rw [show ((x.d.length : Nat) : Int).toNat = x.d.length from rfl, show ((b : Nat) : Int).toNat = b from rfl, ← hnew, hen2, ← hN, hST, r1, er0, if_pos rfl]
      by_cases k : b = j.2.length
      · rw [if_pos k, if_pos (by omega)]
      · rw [if_neg k, if_neg (by omega)]
    have hFT : fwT U Q t = (0, if b = j.2.length then { Uq with qs := S.js.drop (S.lf.toNat + 1), ap := 0, sq := 1 } else { Uq with ap := (b : Int), sq := N % 255 + 1 }, (sendT Q 0 i N new en).2) := by
      rw [← hF1]
      unfold fwT
      rw [if_neg gT, h.a.inS, hi]
      show (match Q.ss[i]?, U.qs with
        | some s, j :: l => fwT1 (if s.k = true then U else { U with ap := 0, sq := 1 }) Q j l
        | _, _ => (0, U, Q)) = _
      split
      · rename_i s' j' l' q1 q2
        rw [hQx] at q1
        cases q1
        obtain ⟨e1, e2⟩ := List.cons.inj (hUq.symm.trans q2)
        rw [← hUqe, ← e1, ← e2]
      · rename_i hno
        exact (hno _ _ _ hQx hUq).elim
    rw [hFV, hFT]
    rw [eV] at r2 r3 ⊢
    refine ⟨rfl, ?_⟩
    by_cases k : b = j.2.length
    · have hent : en = true := by rw [hen, decide_eq_true k]
      rw [if_pos hent] at r2 r3 ⊢
      simp only [if_pos k]
      refine { a := r2, b := ⟨by rw [f3]; exact h.b.q, by rw [f4]; exact h.b.r, by rw [f5]; exact h.b.ws, by rw [f6]; exact h.b.ss, by rw [f7]; exact h.b.js, ?_⟩, ia := r3, ib := ?_, sr := h.sr, sv := fun y hy hyc => ?_ }
      · show S.js.drop (S.lf.toNat + 1) = if 0 < S.r then S.js.drop (S.lf + 1).toNat else []
        rw [if_pos (by have := h.sr; omega), show (S.lf + 1).toNat = S.lf.toNat + 1 by omega]
      · have hb' := h.ib.mono (Nat.le_succ n)
        exact { q := hb'.q, r := hb'.r, wb := hb'.wb, sb := hb'.sb, nd := hb'.nd, wl := hb'.wl, sl := hb'.sl, jl := hb'.jl, jd := hb'.jd, lf := by show 0 ≤ S.lf + 1 ∧ S.lf + 1 ≤ ((S.js.length : Nat) : Int); omega }
      · have := nd_at (List.nodup_append.1 h.ia.nd).2.1 hx y hy
        exact absurd (hyc.trans hxc.symm) this.2
    · have henf : en = false := by rw [hen, decide_eq_false k]
      have hne : ¬ en = true := by rw [henf]; simp
      rw [if_neg hne] at r2 r3
      simp only [if_neg k, if_neg hne]
      refine { a := r2, b := ⟨by rw [f3]; exact h.b.q, by rw [f4]; exact h.b.r, by rw [f5]; exact h.b.ws, by rw [f6]; exact h.b.ss, by rw [f7]; exact h.b.js, by rw [f8]; exact h.b.qs⟩, ia := r3, ib := h.ib.mono (Nat.le_succ n), sr := h.sr, sv := fun y hy hyc => ?_ }
      have hy' : y = { x1 with q := N, s := 0, d := x.d ++ new } ∨ (y ∈ V.ss.eraseIdx i) := by
        have hy2 : y ∈ V.ss.set i { x1 with q := N, s := 0, d := x.d ++ new } := hy
        rw [List.set_eq_take_append_cons_drop, if_pos a1] at hy2
        rw [List.eraseIdx_eq_take_drop_succ]
        rcases List.mem_append.1 hy2 with g1 | g1
        · exact .inr (List.mem_append.2 (.inl g1))
        · rcases List.mem_cons.1 g1 with g2 | g2
          · exact .inl g2
          · exact .inr (List.mem_append.2 (.inr g2))
      rcases hy' with e | e
      · have q1 : y.q = N := by rw [e]
        have q2 : y.d = x.d ++ new := by rw [e]
        have q3 : y.j = S.lf := by rw [e, hx1]
        have q4 : (x.d ++ new).length = b := by rw [List.length_append, hnl]; omega
        refine ⟨fun z => by rw [q1] at z; omega, fun _ => ⟨q3, ?_, ?_, j, hj, ?_⟩⟩
        · show (b : Int) = _
          rw [q2, q4]
        · show N % 255 + 1 = y.q % 255 + 1
          rw [q1]
        · rw [q2, q4]; omega
      · have := nd_at (List.nodup_append.1 h.ia.nd).2.1 hx y e
        exact absurd (hyc.trans hxc.symm) this.2
end Go.AM.X
namespace Go.AM.X
open Go Go.AM Go.Proofs Go.AM.Sx
set_option maxHeartbeats 1600000
set_option maxRecDepth 100000
set_option linter.unusedVariables false
/-- Something in memory with the blocks that are none of its. -/
structure Th (h : AH) (ok : AH → Prop) (o : Nat → Prop) : Prop where
  it : ok h
  keep : ∀ h2, h.next ≤ h2.next → (∀ c, c < h.next → ¬ o c → h2.get c = h.get c) → ok h2
  ge : ∀ c, h.next ≤ c → o c
theorem OkV.th {h : AH} {p : Nat} {V : Vp} {o : Nat → Prop} (hV : OkV h p V o) : Th h (fun h => OkV h p V o) o := ⟨hV, fun h2 hn hk => hV.keep hn hk, fun c hc => hV.off_ge hc⟩
theorem OkT.th {h : AH} {p : Nat} {V : Tp} {o : Nat → Prop} (hV : OkT h p V o) : Th h (fun h => OkT h p V o) o := ⟨hV, fun h2 hn hk => hV.keep hn hk, fun c hc => hV.off_ge hc⟩
/-- Another thing, or two, change. -/
theorem Th.other {h h2 : AH} {ok : AH → Prop} {o a a2 : Nat → Prop} (hT : Th h ok o) (hA : Apt a o) (hS : Stf h h2 a a2) : ok h2 ∧ Apt a2 o :=
  ⟨hT.keep h2 hS.1 fun c hc hn => (hS.2 c hc ((hA c).resolve_right hn)).1, hA.step hS fun c hc => hT.ge c hc⟩
def St2 (h h2 : AH) (a b a2 b2 : Nat → Prop) : Prop := h.next ≤ h2.next ∧ ∀ c, c < h.next → a c → b c → h2.get c = h.get c ∧ a2 c ∧ b2 c
theorem Th.other2 {h h2 : AH} {ok : AH → Prop} {o a b a2 b2 : Nat → Prop} (hT : Th h ok o) (hA : Apt a o) (hB : Apt b o) (hS : St2 h h2 a b a2 b2) : ok h2 ∧ Apt a2 o ∧ Apt b2 o := by
  have key : ∀ c, (a2 c ∧ b2 c) ∨ o c := fun c => by
    rcases Nat.lt_or_ge c h.next with hc | hc
    · by_cases g : o c
      · exact .inr g
      · have := hS.2 c hc ((hA c).resolve_right g) ((hB c).resolve_right g)
        exact .inl this.2
    · exact .inr (hT.ge c hc)
  exact ⟨hT.keep h2 hS.1 fun c hc hn => (hS.2 c hc ((hA c).resolve_right hn) ((hB c).resolve_right hn)).1, fun c => (key c).imp And.left id, fun c => (key c).imp And.right id⟩
structure W7 (h : AH) (b mb p s r t : Nat) (sq : Int → Int) (V S : Vp) (Q U : Tp) (oV oS oQ oU : Nat → Prop) : Prop where
  fv : OkV h p V oV
  fs : OkV h s S oS
  fq : OkT h r Q oQ
  fu : OkT h t U oU
  pvs : Apt oV oS
  pvq : Apt oV oQ
  pvu : Apt oV oU
  psq : Apt oS oQ
  psu : Apt oS oU
  pqu : Apt oQ oU
  bx : h.get b = some (.cells [.ptr p 0, .ptr s 0, .ptr r 0, .ptr t 0, .mp mb] .own)
  bl : b < h.next
  bo : oV b ∧ oS b ∧ oQ b ∧ oU b
  mp : MapN h mb sq
  ml : mb < h.next
  mo : oV mb ∧ oS mb ∧ oQ mb ∧ oU mb
  ne : b ≠ mb
variable {h h2 : AH} {b mb p s r t : Nat} {sq : Int → Int} {V S V2 S2 : Vp} {Q U Q2 U2 : Tp} {oV oS oQ oU oV2 oS2 oQ2 oU2 : Nat → Prop}
theorem W7.grow (hW : W7 h b mb p s r t sq V S Q U oV oS oQ oU) (hg : Grow h h2) : W7 h2 b mb p s r t sq V S Q U oV oS oQ oU :=
  { fv := hW.fv.grow hg, fs := hW.fs.grow hg, fq := hW.fq.grow hg, fu := hW.fu.grow hg, pvs := hW.pvs, pvq := hW.pvq, pvu := hW.pvu, psq := hW.psq, psu := hW.psu, pqu := hW.pqu, bx := by rw [hg.2 b hW.bl]; exact hW.bx, bl := Nat.lt_of_lt_of_le hW.bl hg.1, bo := hW.bo, mp := hW.mp.keep (hg.2 mb hW.ml), ml := Nat.lt_of_lt_of_le hW.ml hg.1, mo := hW.mo, ne := hW.ne }
theorem W7.opV (hW : W7 h b mb p s r t sq V S Q U oV oS oQ oU) (hV : OkV h2 p V2 oV2) (hS : Stf h h2 oV oV2) : W7 h2 b mb p s r t sq V2 S Q U oV2 oS oQ oU :=
  have a1 := hW.fs.th.other hW.pvs hS
  have a2 := hW.fq.th.other hW.pvq hS
  have a3 := hW.fu.th.other hW.pvu hS
  have k1 := hS.2 b hW.bl hW.bo.1
  have k2 := hS.2 mb hW.ml hW.mo.1
  { fv := hV, fs := a1.1, fq := a2.1, fu := a3.1, pvs := a1.2, pvq := a2.2, pvu := a3.2, psq := hW.psq, psu := hW.psu, pqu := hW.pqu, bx := by rw [k1.1]; exact hW.bx, bl := Nat.lt_of_lt_of_le hW.bl hS.1, bo := ⟨k1.2, hW.bo.2⟩, mp := hW.mp.keep k2.1, ml := Nat.lt_of_lt_of_le hW.ml hS.1, mo := ⟨k2.2, hW.mo.2⟩, ne := hW.ne }
theorem W7.opS (hW : W7 h b mb p s r t sq V S Q U oV oS oQ oU) (hV : OkV h2 s S2 oS2) (hS : Stf h h2 oS oS2) : W7 h2 b mb p s r t sq V S2 Q U oV oS2 oQ oU :=
  have a1 := hW.fv.th.other hW.pvs.symm hS
  have a2 := hW.fq.th.other hW.psq hS
  have a3 := hW.fu.th.other hW.psu hS
  have k1 := hS.2 b hW.bl hW.bo.2.1
  have k2 := hS.2 mb hW.ml hW.mo.2.1
  { fv := a1.1, fs := hV, fq := a2.1, fu := a3.1, pvs := a1.2.symm, pvq := hW.pvq, pvu := hW.pvu, psq := a2.2, psu := a3.2, pqu := hW.pqu, bx := by rw [k1.1]; exact hW.bx, bl := Nat.lt_of_lt_of_le hW.bl hS.1, bo := ⟨hW.bo.1, k1.2, hW.bo.2.2⟩, mp := hW.mp.keep k2.1, ml := Nat.lt_of_lt_of_le hW.ml hS.1, mo := ⟨hW.mo.1, k2.2, hW.mo.2.2⟩, ne := hW.ne }
theorem W7.opQ (hW : W7 h b mb p s r t sq V S Q U oV oS oQ oU) (hV : OkT h2 r Q2 oQ2) (hS : Stf h h2 oQ oQ2) : W7 h2 b mb p s r t sq V S Q2 U oV oS oQ2 oU :=
  have a1 := hW.fv.th.other hW.pvq.symm hS
  have a2 := hW.fs.th.other hW.psq.symm hS
  have a3 := hW.fu.th.other hW.pqu hS
  have k1 := hS.2 b hW.bl hW.bo.2.2.1
  have k2 := hS.2 mb hW.ml hW.mo.2.2.1
  { fv := a1.1, fs := a2.1, fq := hV, fu := a3.1, pvs := hW.pvs, pvq := a1.2.symm, pvu := hW.pvu, psq := a2.2.symm, psu := hW.psu, pqu := a3.2, bx := by rw [k1.1]; exact hW.bx, bl := Nat.lt_of_lt_of_le hW.bl hS.1, bo := ⟨hW.bo.1, hW.bo.2.1, k1.2, hW.bo.2.2.2⟩, mp := hW.mp.keep k2.1, ml := Nat.lt_of_lt_of_le hW.ml hS.1, mo := ⟨hW.mo.1, hW.mo.2.1, k2.2, hW.mo.2.2.2⟩, ne := hW.ne }
theorem W7.opU (hW : W7 h b mb p s r t sq V S Q U oV oS oQ oU) (hV : OkT h2 t U2 oU2) (hS : Stf h h2 oU oU2) : W7 h2 b mb p s r t sq V S Q U2 oV oS oQ oU2 :=
  have a1 := hW.fv.th.other hW.pvu.symm hS
  have a2 := hW.fs.th.other hW.psu.symm hS
  have a3 := hW.fq.th.other hW.pqu.symm hS
  have k1 := hS.2 b hW.bl hW.bo.2.2.2
  have k2 := hS.2 mb hW.ml hW.mo.2.2.2
  { fv := a1.1, fs := a2.1, fq := a3.1, fu := hV, pvs := hW.pvs, pvq := hW.pvq, pvu := a1.2.symm, psq := hW.psq, psu := a2.2.symm, pqu := a3.2.symm, bx := by rw [k1.1]; exact hW.bx, bl := Nat.lt_of_lt_of_le hW.bl hS.1, bo := ⟨hW.bo.1, hW.bo.2.1, hW.bo.2.2.1, k1.2⟩, mp := hW.mp.keep k2.1, ml := Nat.lt_of_lt_of_le hW.ml hS.1, mo := ⟨hW.mo.1, hW.mo.2.1, hW.mo.2.2.1, k2.2⟩, ne := hW.ne }
/-- The program's spooler forwards. -/
theorem W7.opF (hW : W7 h b mb p s r t sq V S Q U oV oS oQ oU) (hV : OkV h2 p V2 oV2) (hSp : OkV h2 s S2 oS2) (hA : Apt oV2 oS2) (hS : St2 h h2 oV oS oV2 oS2) : W7 h2 b mb p s r t sq V2 S2 Q U oV2 oS2 oQ oU :=
  have a2 := hW.fq.th.other2 hW.pvq hW.psq hS
  have a3 := hW.fu.th.other2 hW.pvu hW.psu hS
  have k1 := hS.2 b hW.bl hW.bo.1 hW.bo.2.1
  have k2 := hS.2 mb hW.ml hW.mo.1 hW.mo.2.1
  { fv := hV, fs := hSp, fq := a2.1, fu := a3.1, pvs := hA, pvq := a2.2.1, pvu := a3.2.1, psq := a2.2.2, psu := a3.2.2, pqu := hW.pqu, bx := by rw [k1.1]; exact hW.bx, bl := Nat.lt_of_lt_of_le hW.bl hS.1, bo := ⟨k1.2.1, k1.2.2, hW.bo.2.2⟩, mp := hW.mp.keep k2.1, ml := Nat.lt_of_lt_of_le hW.ml hS.1, mo := ⟨k2.2.1, k2.2.2, hW.mo.2.2⟩, ne := hW.ne }
/-- The document's spooler forwards. -/
theorem W7.opG (hW : W7 h b mb p s r t sq V S Q U oV oS oQ oU) (hV : OkT h2 r Q2 oQ2) (hSp : OkT h2 t U2 oU2) (hA : Apt oQ2 oU2) (hS : St2 h h2 oQ oU oQ2 oU2) : W7 h2 b mb p s r t sq V S Q2 U2 oV oS oQ2 oU2 :=
  have a2 := hW.fv.th.other2 hW.pvq.symm hW.pvu.symm hS
  have a3 := hW.fs.th.other2 hW.psq.symm hW.psu.symm hS
  have k1 := hS.2 b hW.bl hW.bo.2.2.1 hW.bo.2.2.2
  have k2 := hS.2 mb hW.ml hW.mo.2.2.1 hW.mo.2.2.2
  { fv := a2.1, fs := a3.1, fq := hV, fu := hSp, pvs := hW.pvs, pvq := a2.2.1.symm, pvu := a2.2.2.symm, psq := a3.2.1.symm, psu := a3.2.2.symm, pqu := hA, bx := by rw [k1.1]; exact hW.bx, bl := Nat.lt_of_lt_of_le hW.bl hS.1, bo := ⟨hW.bo.1, hW.bo.2.1, k1.2.1, k1.2.2⟩, mp := hW.mp.keep k2.1, ml := Nat.lt_of_lt_of_le hW.ml hS.1, mo := ⟨hW.mo.1, hW.mo.2.1, k2.2.1, k2.2.2⟩, ne := hW.ne }
/-- The map is written. -/
theorem W7.map {sq2 : Int → Int} (hW : W7 h b mb p s r t sq V S Q U oV oS oQ oU) (hm : MapN h2 mb sq2) (hn : h2.next = h.next) (hk : ∀ c, c ≠ mb → h2.get c = h.get c) : W7 h2 b mb p s r t sq2 V S Q U oV oS oQ oU :=
  have k : ∀ o : Nat → Prop, o mb → ∀ c, c < h.next → ¬ o c → h2.get c = h.get c := fun o ho c _ hc => hk c fun g => hc (by rw [g]; exact ho)
  { fv := hW.fv.keep (by omega) (k _ hW.mo.1), fs := hW.fs.keep (by omega) (k _ hW.mo.2.1), fq := hW.fq.keep (by omega) (k _ hW.mo.2.2.1), fu := hW.fu.keep (by omega) (k _ hW.mo.2.2.2), pvs := hW.pvs, pvq := hW.pvq, pvu := hW.pvu, psq := hW.psq, psu := hW.psu, pqu := hW.pqu, bx := by rw [hk b hW.ne]; exact hW.bx, bl := by have := hW.bl; omega, bo := hW.bo, mp := hm, ml := by have := hW.ml; omega, mo := hW.mo, ne := hW.ne }
end Go.AM.X
