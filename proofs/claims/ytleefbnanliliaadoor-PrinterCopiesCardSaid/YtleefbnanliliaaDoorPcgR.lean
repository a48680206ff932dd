/- PrinterPlays: an act. Own work. -/
import Derived.Test.YtleefbnanliliaaDoorPpgQ
namespace Go.AM.X
open Go Go.AM Go.Proofs Go.AM.Sx
set_option maxHeartbeats 6400000
set_option maxRecDepth 100000
set_option linter.unusedVariables false
theorem F26 : F 26 = some { body := (Tryd.f26.body.getD .skip), results := Tryd.f26.results.toList, rf := false } := by kernel_rfl
/-- Where the clients' ends lie is known. -/
def BB (V : Vp) : Prop := (∀ w ∈ V.ws, okB w.b) ∧ ∀ x ∈ V.ss, okB x.b
theorem BB.wants {V : Vp} {w : Wt} (h : BB V) (hw : okB w.b) : BB { V with ws := wantPV V w } := by
  refine ⟨fun x hx => ?_, h.2⟩
  have hx' : x ∈ wantPV V w := hx
  unfold wantPV at hx'
  split at hx'
  · rcases List.mem_append.1 hx' with g | g
    · exact h.1 x g
    · rw [List.mem_singleton.1 g]; exact hw
  · exact h.1 x hx'
theorem BB.want {V : Vp} (c w : Int) (h : BB V) : BB { V with ws := WantPV V c w } := by
  unfold WantPV
  split
  · exact h
  · exact h.wants (.inl rfl)
theorem BB.give {V : Vp} (c : Int) (h : BB V) : BB (giveV V c).2 := by
  unfold giveV
  repeat' split
  · exact h
  · exact ⟨fun x hx => h.1 x (mem_erase hx), h.2⟩
  · exact ⟨h.1, fun x hx => h.2 x (mem_erase hx)⟩
  · exact h
theorem BB.tick {V : Vp} (h : BB V) : BB (tickV V) := by
  have hp := (serve_perm (freeV V) (V.ws.map incW)).1
  have key : ∀ w ∈ V.ws.map incW, okB w.b := fun w hw => by
    obtain ⟨y, hy, rfl⟩ := List.mem_map.1 hw
    exact h.1 y hy
  refine ⟨fun x hx => key x (hp.subset (List.mem_append_right _ hx)), fun x hx => ?_⟩
  rcases List.mem_append.1 hx with g | g
  · obtain ⟨y, hy, rfl⟩ := List.mem_map.1 (List.mem_filter.1 g).1
    exact h.2 y hy
  · obtain ⟨w, hw, rfl⟩ := List.mem_map.1 g
    exact key w (hp.subset (List.mem_append_left _ hw))
theorem BB.set {V : Vp} {i : Nat} {x : Vs} (h : BB V) (hx : okB x.b) : BB { V with ss := V.ss.set i x } :=
  ⟨h.1, fun y hy => by
    rcases List.mem_or_eq_of_mem_set hy with g | g
    · exact h.2 y g
    · rw [g]; exact hx⟩
theorem BB.sends {V : Vp} (i : Nat) (n : Int) (new : List Int) (en : Bool) (h : BB V) : BB (sendV V i n new en).2 := by
  unfold sendV
  split
  · exact h
  · rename_i s hs
    have hb := h.2 s (List.mem_of_getElem? hs)
    repeat' split
    · exact h.set hb
    · exact h
    · exact ⟨h.1, fun x hx => h.2 x (mem_erase hx)⟩
    · exact ⟨h.1, fun x hx => h.2 x (mem_erase hx)⟩
    · exact h.set hb
theorem BB.send {V : Vp} (c n : Int) (new : List Int) (en : Bool) (h : BB V) : BB (SendV V c n new en).2 := by
  unfold SendV
  split
  · exact h
  · split
    · exact h.sends _ _ _ _
    · exact h
theorem BB.fw {V : Vp} (S : Vp) (s : Nat) (h : BB V) : BB (fwV S V s).2.2 := by
  unfold fwV
  split
  · exact h
  · split
    · exact h.wants (.inr ⟨s, 0, rfl⟩)
    · split
      · rename_i x j hx hj
        refine BB.sends _ _ _ _ ?_
        split
        · exact h
        · exact h.set (h.2 x (List.mem_of_getElem? hx))
      · exact h
theorem code_dr {C : Cf} {T : TT} {n : Nat} {rf : Bool} {id all e h K} (hd : drawOk T all = true) (hs : softs T all = []) : code C T n rf (.region id all true) e h K = ops C T all all.toList e h (K .normal) := by
  simp only [code, hd, hs]
/-- An act. -/
structure Ac where
  dd : Int
  on : Int
  cl : Int
  n : Int
  da : List Int
  en : Bool
def Ac.av (a : Ac) : List AV := [.int .i64 a.dd, .int .i64 a.on, .int .i64 a.cl, .int .i64 a.n, .lst false 1 a.da.length (bytes a.da), .bool a.en]
theorem Ac.len (a : Ac) : a.av.length = 6 := rfl
theorem V21c {I : Nat → Option (List AV → AH → Rs)} (h30 : I 30 = none) (h32 : I 32 = none) (h57 : I 57 = none) (h38 : I 38 = none) (h39 : I 39 = none) (h43 : I 43 = none) (h42 : I 42 = none) (h21 : I 21 = none) (h60 : I 60 = none) (m p : Nat) (c n : Int) (x : AV) (en : Bool) (V : Vp) (off : Nat → Prop) (h : AH) (new : List Int) (hV : OkV h p V off) (hq0 : ¬ V.q = 0) (hq : ∀ s ∈ V.ss, 0 ≤ s.q ∧ s.q ≤ 255 ∧ s.d.length ≤ 5000)
    (hx : Pc off h x new) (hqb : V.q ≤ 1000) (hjl : V.js.length ≤ 1000000) :
    ∃ h2 off2, call F I T (m + 310) 21 [.ptr p 0, .int .i64 c, .int .i64 n, x, .bool en] h = some (.int .i64 (SendV V c n new en).1, h2) ∧ OkV h2 p (SendV V c n new en).2 off2 ∧ Stf h h2 off off2 := by
  cases hb : barV V c n new.length en with
  | none =>
    refine V21 h30 h32 h57 h38 h39 h43 h42 h21 h60 m p c n x en V off h new hV hq0 hq hx ?_ hjl
    unfold barV at hb
    split at hb
    · cases hb
    · split at hb
      · cases hb
      · omega
  | some e =>
    have hV0 := hV
    obtain ⟨P, dat, js, hP, hVe, hoe⟩ := hV
    have hbar : sendBar P c n new.length en = barV V c n new.length en := by
      unfold sendBar barV; rw [hVe, find_v]; rfl
    have hg := Grow.alloc h (.cells [.int .i64 c] .own)
    unfold SendV
    rw [hb]
    exact ⟨_, off, run21no h30 h32 h57 h38 h39 h43 h42 h21 h60 m p c n x new.length en P h hP.ok (by rw [hVe] at hq0; exact hq0) hx.1 e (by rw [hbar]; exact hb), hV0.grow hg, Stf.grow off hg⟩
/-- What the contracts want of the document's printer. -/
theorem Rel.fit {t s n : Nat} {V : Vp} {Q : Tp} (h : Rel t V Q) (hI : Inv n s V) : (Q.ws.length ≤ 200 ∧ Q.ss.length ≤ 200) ∧ (∀ x ∈ Q.ss, (1 ≤ x.n ∧ x.n ≤ 255) ∧ x.d.length ≤ 5000) ∧ (∀ w ∈ Q.ws, 0 ≤ w.w ∧ w.w ≤ 100000 + (n : Int)) ∧ (∀ x ∈ Q.ss, 0 ≤ x.s ∧ x.s ≤ 29) ∧ (Q.js.length ≤ n ∧ Q.qs.length ≤ n) ∧ (0 ≤ Q.r ∧ Q.r ≤ 20) ∧ (1 ≤ Q.q ∧ Q.q ≤ 500) ∧ (∀ x ∈ Q.ss, big x.c) ∧ (∀ w ∈ Q.ws, w.c = 0 → w.b = .ptr t 0) ∧ (∀ x ∈ Q.ss, x.c = 0 → x.b = .ptr t 0) ∧ (∀ j ∈ Q.qs, j.2.length ≤ 5000) := by
  have hr := hI.r
  have hsl := hI.sl
  have hjl := hI.jl
  have hqs : Q.qs.length ≤ V.js.length := by
    rw [h.qs]; split
    · rw [List.length_drop]; omega
    · exact Nat.zero_le _
  refine ⟨⟨by rw [h.ws, List.length_map]; have := hI.wl; omega, by rw [h.ss, List.length_map]; omega⟩, fun x hx => ?_, fun w hw => ?_, fun x hx => ?_, ⟨by rw [h.js]; exact hjl, by omega⟩, by rw [h.r]; exact hr, by rw [h.q]; exact hI.q, fun x hx => ?_, fun w hw => ?_, fun x hx => ?_, fun j hj => ?_⟩
  · rw [h.ss] at hx; obtain ⟨y, hy, rfl⟩ := List.mem_map.1 hx
    have := hI.sb y hy
    exact ⟨⟨by show 1 ≤ y.q % 255 + 1; omega, by show y.q % 255 + 1 ≤ 255; omega⟩, this.2.2.1⟩
  · rw [h.ws] at hw; obtain ⟨y, hy, rfl⟩ := List.mem_map.1 hw
    exact (hI.wb y hy).1
  · rw [h.ss] at hx; obtain ⟨y, hy, rfl⟩ := List.mem_map.1 hx
    exact (hI.sb y hy).2.1
  · rw [h.ss] at hx; obtain ⟨y, hy, rfl⟩ := List.mem_map.1 hx
    exact (hI.sb y hy).2.2.2.1
  · rw [h.ws] at hw; obtain ⟨y, hy, rfl⟩ := List.mem_map.1 hw
    intro hc
    show (if y.c = 0 then AV.ptr t 0 else .nilp) = _
    rw [if_pos (show y.c = 0 from hc)]
  · rw [h.ss] at hx; obtain ⟨y, hy, rfl⟩ := List.mem_map.1 hx
    intro hc
    show (if y.c = 0 then AV.ptr t 0 else .nilp) = _
    rw [if_pos (show y.c = 0 from hc)]
  · rw [h.qs] at hj
    split at hj
    · exact hI.jd j (List.mem_of_mem_drop hj)
    · cases hj
theorem giveFix (V : Vp) (c : Int) : (giveV V c).2.r = V.r ∧ (giveV V c).2.lf = V.lf ∧ (giveV V c).2.js = V.js := by
  unfold giveV
  repeat' split
  all_goals exact ⟨rfl, rfl, rfl⟩
theorem giveFixT (Q : Tp) (c : Int) : (giveO Q c).2.ap = Q.ap ∧ (giveO Q c).2.sq = Q.sq := by
  unfold giveO
  repeat' split
  all_goals exact ⟨rfl, rfl⟩
theorem sendFix (V : Vp) (c N : Int) (new : List Int) (en : Bool) : (SendV V c N new en).2.r = V.r ∧ (SendV V c N new en).2.lf = V.lf ∧ ∃ l, (SendV V c N new en).2.js = V.js ++ l := by
  have z : ∃ l, V.js = V.js ++ l := ⟨[], (List.append_nil _).symm⟩
  unfold SendV
  split
  · exact ⟨rfl, rfl, z⟩
  · split
    · unfold sendV
      repeat' split
      all_goals first
        | exact ⟨rfl, rfl, z⟩
        | exact ⟨rfl, rfl, _, rfl⟩
    · exact ⟨rfl, rfl, z⟩
theorem sendFixT (Q : Tp) (c N : Int) (new : List Int) (en : Bool) : (if c < 1 then ((5 : Int), Q) else SendT Q c N new en).2.ap = Q.ap ∧ (if c < 1 then ((5 : Int), Q) else SendT Q c N new en).2.sq = Q.sq := by
  split
  · exact ⟨rfl, rfl⟩
  · unfold SendT sendT
    repeat' split
    all_goals exact ⟨rfl, rfl⟩
theorem sendSubV {V : Vp} {c N : Int} {new : List Int} {en : Bool} (hnd : (V.ss.map Vs.c).Nodup) : ∀ x ∈ (SendV V c N new en).2.ss, x.c = 0 → (x.q = 0 ∧ x.d = []) ∨ ∃ y ∈ V.ss, y.c = 0 ∧ x.q = y.q ∧ x.d = y.d ∧ x.j = y.j := fun x hx hc => by
  have same : ∀ z ∈ V.ss, z.c = 0 → (z.q = 0 ∧ z.d = []) ∨ ∃ y ∈ V.ss, y.c = 0 ∧ z.q = y.q ∧ z.d = y.d ∧ z.j = y.j := fun z hz h0 => .inr ⟨z, hz, h0, rfl, rfl, rfl⟩
  unfold SendV at hx
  split at hx
  · exact same x hx hc
  · rename_i hb
    have hc1 : ¬ c < 1 := fun g => by unfold barV at hb; rw [if_pos (.inl g)] at hb; cases hb
    split at hx
    · rename_i i hi
      obtain ⟨a1, a2, _⟩ := List.findIdx?_eq_some_iff_getElem.1 hi
      have hic : (V.ss[i]).c = c := of_decide_eq_true a2
      have hsi : V.ss[i]? = some V.ss[i] := List.getElem?_eq_getElem a1
      have old : ∀ y : Vs, y.c = c → x ∈ V.ss.set i y → (x.q = 0 ∧ x.d = []) ∨ ∃ y ∈ V.ss, y.c = 0 ∧ x.q = y.q ∧ x.d = y.d ∧ x.j = y.j := fun y hy hm => by
        rcases List.mem_or_eq_of_mem_set hm with g | g
        · exact same x g hc
        · rw [g, hy] at hc; omega
      unfold sendV at hx
      rw [hsi] at hx
      simp only at hx
      split at hx
      · refine old _ ?_ hx
        exact hic
      · split at hx
        · exact same x hx hc
        · split at hx
          · exact same x (mem_erase hx) hc
          · split at hx
            · exact same x (mem_erase hx) hc
            · refine old _ ?_ hx
              exact hic
    · exact same x hx hc
theorem tmod_b (M : Int) : -255 < M.tmod 255 ∧ M.tmod 255 < 255 := by
  have h1 := Int.tmod_lt_of_pos M (show (0 : Int) < 255 by decide)
  have h2 := Int.lt_tmod_of_pos M (show (0 : Int) < 255 by decide)
  omega
theorem sameB (l : List Int) : sameL (bytes l) (bytes l) = true := by
  unfold bytes
  induction l with
  | nil => rfl
  | cons x l ih => simp only [List.map_cons, sameL, ih, Bool.and_true]; simp [sameV]
theorem fwPre {S : Vp} {U : Tp} {x : Vs} (h : SvOk S U x) {j : Int × List Int} (hj : S.js[S.lf.toNat]? = some j) : x.d.length ≤ j.2.length := by
  by_cases h0 : x.q = 0
  · rw [h.1 h0]; exact Nat.zero_le _
  · obtain ⟨_, _, _, j', k4, k5⟩ := h.2 h0
    rw [hj] at k4; cases k4; exact k5
theorem fwSq {n s t : Nat} {V S : Vp} {Q U : Tp} (h : Pair n s t V S Q U) : ∀ x ∈ Q.ss, x.c = 0 → x.k = true → 1 ≤ U.sq ∧ U.sq ≤ 255 := fun x hx hc hk => by
  rw [h.a.ss] at hx
  obtain ⟨y, hy, rfl⟩ := List.mem_map.1 hx
  have h0 : y.q ≠ 0 := of_decide_eq_true hk
  have hb := (h.ia.sb y hy).1
  have := ((h.sv y hy hc).2 h0).2.2.1
  omega
theorem fwAp {n s t : Nat} {V S : Vp} {Q U : Tp} (h : Pair n s t V S Q U) : ∀ x ∈ Q.ss, x.c = 0 → x.k = true → ∀ j l, U.qs = j :: l → 0 ≤ U.ap ∧ U.ap ≤ (j.2.length : Int) := fun x hx hc hk j l hq => by
  rw [h.a.ss] at hx
  obtain ⟨y, hy, rfl⟩ := List.mem_map.1 hx
  have h0 : y.q ≠ 0 := of_decide_eq_true hk
  obtain ⟨_, k2, _, j', k4, k5⟩ := (h.sv y hy hc).2 h0
  have hqs := h.b.qs
  rw [if_pos (by have := h.sr; omega), hq] at hqs
  have hll := (List.getElem?_eq_some_iff.1 k4).1
  rw [List.drop_eq_getElem_cons hll, (List.getElem?_eq_some_iff.1 k4).2] at hqs
  have : j = j' := (List.cons.inj hqs).1
  rw [this]
  omega
def DoP (n b mb p s r t : Nat) (V S : Vp) (rr : Rs) : Prop := ∃ h2 sq2 V2 S2 Q2 U2 oV2 oS2 oQ2 oU2, rr = some (.bool true, h2) ∧ W7 h2 b mb p s r t sq2 V2 S2 Q2 U2 oV2 oS2 oQ2 oU2 ∧ Pair (n + 1) s t V2 S2 Q2 U2 ∧ (BB V → BB V2) ∧ (BB S → BB S2)
theorem run26 {I : Nat → Option (List AV → AH → Rs)} (h30 : I 30 = none) (h32 : I 32 = none) (h58 : I 58 = none) (h37 : I 37 = none) (h57 : I 57 = none) (h38 : I 38 = none) (h33 : I 33 = none) (h12 : I 12 = none) (h34 : I 34 = none) (h35 : I 35 = none) (h36 : I 36 = none) (h13 : I 13 = none) (h39 : I 39 = none) (h15 : I 15 = none) (h25 : I 25 = none) (h43 : I 43 = none) (h42 : I 42 = none) (h18 : I 18 = none) (h21 : I 21 = none) (h63 : I 63 = none) (h62 : I 62 = none) (h46 : I 46 = none) (h64 : I 64 = none) (h47 : I 47 = none) (h65 : I 65 = none) (h48 : I 48 = none) (h49 : I 49 = none) (h50 : I 50 = none) (h26 : I 26 = none) (h59 : I 59 = none) (h60 : I 60 = none) (h35 : I 35 = none) (m n b mb p s r t : Nat) (sq : Int → Int) (V S : Vp) (Q U : Tp) (oV oS oQ oU : Nat → Prop) (a : Ac) (h : AH) (hW : W7 h b mb p s r t sq V S Q U oV oS oQ oU) (hP : Pair n s t V S Q U) (hn : n ≤ 1000) (hcl : big a.cl) (hda : a.da.length ≤ 1000000000000000) (hrt : ¬ r = t) :
    DoP n b mb p s r t V S (call F I T (m + 500) 26 [.ptr b 0, .agg a.av] h) := by
  obtain ⟨h1, hh1⟩ : ∃ h1, h1 = h.alloc (.cells [.int .i64 a.dd, .int .i64 a.on, .int .i64 a.cl, .int .i64 a.n, .lst false 1 a.da.length (bytes a.da), .bool a.en] .own) := ⟨_, rfl⟩
  have hg1 : Grow h h1 := by rw [hh1]; exact Grow.alloc _ _
  have n1 : h1.next = h.next + 1 := by rw [hh1]; rfl
  have W1 := hW.grow hg1
  have g1 : h1.get h.next = some (.cells [.int .i64 a.dd, .int .i64 a.on, .int .i64 a.cl, .int .i64 a.n, .lst false 1 a.da.length (bytes a.da), .bool a.en] .own) := by rw [hh1, AH.get_alloc, if_pos rfl]
  have bx1 := W1.bx
  obtain ⟨fV1, fV2, fV3, fV4, fV5, fV6, fV7, fV8, fV9, fVa, fVb⟩ := hP.a.fit hP.ia
  obtain ⟨fU1, fU2, fU3, fU4, fU5, fU6, fU7, fU8, fU9, fUa, fUb⟩ := hP.b.fit hP.ib
  have qV : ¬ V.q = 0 := by have := hP.ia.q; omega
  have qS : ¬ S.q = 0 := by have := hP.ib.q; omega
  have oB : oV h.next ∧ oS h.next ∧ oQ h.next ∧ oU h.next := ⟨hW.fv.off_ge (Nat.le_refl _), hW.fs.off_ge (Nat.le_refl _), hW.fq.off_ge (Nat.le_refl _), hW.fu.off_ge (Nat.le_refl _)⟩
  have hBn : h.next ≠ mb := by have := hW.ml; omega
  unfold Ac.av
  have tickSub : ∀ x ∈ (tickV V).ss, x.c = 0 → (x.q = 0 ∧ x.d = []) ∨ ∃ y ∈ V.ss, y.c = 0 ∧ x.q = y.q ∧ x.d = y.d ∧ x.j = y.j := fun x hx hc => by
    rcases List.mem_append.1 hx with g | g
    · obtain ⟨y, hy, rfl⟩ := List.mem_map.1 (List.mem_filter.1 g).1
      exact .inr ⟨y, hy, hc, rfl, rfl, rfl⟩
    · obtain ⟨w, _, rfl⟩ := List.mem_map.1 g
      exact .inl ⟨rfl, rfl⟩
  have giveSub : ∀ x ∈ (giveV V a.cl).2.ss, x.c = 0 → (x.q = 0 ∧ x.d = []) ∨ ∃ y ∈ V.ss, y.c = 0 ∧ x.q = y.q ∧ x.d = y.d ∧ x.j = y.j := fun x hx hc => by
    refine .inr ⟨x, ?_, hc, rfl, rfl, rfl⟩
    unfold giveV at hx
    split at hx
    · exact hx
    · split at hx
      · exact hx
      · split at hx
        · exact mem_erase hx
        · exact hx
  by_cases con : a.on = 0
  · by_cases c0 : a.dd = 0
    · obtain ⟨e1, e2, e3⟩ := hP.a.Want hP.ia a.cl a.n hcl
      obtain ⟨h2, oV2, k1, k2, k3⟩ := V12 h30 h32 h58 h37 h57 h38 h33 h12 h59 h60 (m + 196) p a.cl a.n V oV h1 W1.fv qV
      have W2 := W1.opV k2 k3
      have gB := k3.2 h.next (by omega) oB.1
      have g2 := gB.1.trans g1
      have bx2 := W2.bx
      by_cases ce : WantEV V a.cl a.n = 0
      · obtain ⟨h3, x1, x2, x3, x4⟩ := W2.mp.upd m41 (a.cl) 0
        have W3 := W2.map x2 x3 x4
        have g3 := (x4 h.next hBn).trans g2
        obtain ⟨h4, oQ2, l1, l2, l3⟩ := L46 h63 h62 h46 (m + 198) r a.cl a.n Q oQ h3 W3.fq fV1
        have W4 := W3.opQ l2 l3
        rw [e1] at l1
        rw [call_code (by decide) h26 F26 rfl]; simp only [Tryd.f26, Option.getD]
        simp +contextual (maxSteps := 3000000) only [↓ops_nil, ↓ops_cons, run_none, ↓run0_v, ↓run0_r, ↓seqK_normal, env0_at, ev_tmp, ev_const, oc_bool, o_assign, o_box, g_none, Option.getD_some, List.getElem?_cons_zero, List.getElem?_cons_succ, ↓cd_seq, ↓cd_region, box_agg, ← hh1]
        rw [code_dr (by kernel_rfl) (by kernel_rfl)]
        simp +contextual (maxSteps := 3000000) only [aCond_bool, ↓ops_nil, ↓ops_cons, run_none, ↓run0_v, ↓seqK_normal, ↓seqK_ret, ↓blkK_normal, ↓blkK_ret, ↓retK_ret, put_same, put_ne, put_none, env0_at, ev_tmp, ev_const, ev_func, oc_int, o_move, o_assign, o_bin, o_call, o_load, o_nilCheck, o_fieldAddr, g_none, bin_eql, bin_neq, nil_ptr, resultsOf, oneOrAll, Option.map_some, Option.getD_some, decide_eq_true_eq, ↓reduceIte, Nat.reduceEqDiff, not_false_eq_true, not_true_eq_false, Nat.reduceAdd, reduceCtorEq, List.getElem?_cons_zero, List.getElem?_cons_succ, List.map_cons, List.map_nil, List.append_nil, List.nil_append, Bool.not_eq_eq_eq_not, Bool.not_true, ne_eq, decide_eq_false_iff_not, ↓cd_skip, ↓cd_seq, ↓cd_region, ↓cd_cond, ↓cd_block, ↓cd_ret, fa_ptr T43 p43_0 (by decide), load_p1 T23 a23, loadc_def, fa_ptr T43 p43_2 (by decide), load_p1 T40 a40, fa_ptr T53 p53_2 (by decide), load_p1 T3 a3, fa_ptr T53 p53_1 (by decide), fa_ptr T53 p53_0 (by decide), fa_ptr T53 p53_3 (by decide), fa_ptr T43 p43_4 (by decide), load_p1 T41 a41, o_mapUpdate, fa_ptr T53 p53_4 (by decide), load_p1 T48 a48, fa_ptr T53 p53_5 (by decide), load_p1 T4 a4, o_lookup, callV_fn (g := 12) (by decide), callV_fn (g := 13) (by decide), callV_fn (g := 21) (by decide), callV_fn (g := 46) (by decide), callV_fn (g := 48) (by decide), callV_fn (g := 50) (by decide), g1, bx1, eq_true con]
        simp +contextual (maxSteps := 3000000) only [aCond_bool, ↓run0_v, ↓run0_h, ↓run0_r, bin_eql, ↓reduceIte, List.getElem?_cons_zero, List.getElem?_cons_succ, eq_true c0, k1, g2, bx2, eq_true ce, x1, g3, l1, decide_true]
        exact ⟨_, _, _, _, _, _, _, _, _, _, rfl, W4, hP.stepV (Nat.le_succ n) e2 (e3.mono (Nat.le_succ n)) (fun x hx hc => .inr ⟨x, hx, hc, rfl, rfl, rfl⟩), BB.want _ _, id⟩
      · obtain ⟨h4, oQ2, l1, l2, l3⟩ := L46 h63 h62 h46 (m + 198) r a.cl a.n Q oQ h2 W2.fq fV1
        have W4 := W2.opQ l2 l3
        rw [e1] at l1
        rw [call_code (by decide) h26 F26 rfl]; simp only [Tryd.f26, Option.getD]
        simp +contextual (maxSteps := 3000000) only [↓ops_nil, ↓ops_cons, run_none, ↓run0_v, ↓run0_r, ↓seqK_normal, env0_at, ev_tmp, ev_const, oc_bool, o_assign, o_box, g_none, Option.getD_some, List.getElem?_cons_zero, List.getElem?_cons_succ, ↓cd_seq, ↓cd_region, box_agg, ← hh1]
        rw [code_dr (by kernel_rfl) (by kernel_rfl)]
        simp +contextual (maxSteps := 3000000) only [aCond_bool, ↓ops_nil, ↓ops_cons, run_none, ↓run0_v, ↓seqK_normal, ↓seqK_ret, ↓blkK_normal, ↓blkK_ret, ↓retK_ret, put_same, put_ne, put_none, env0_at, ev_tmp, ev_const, ev_func, oc_int, o_move, o_assign, o_bin, o_call, o_load, o_nilCheck, o_fieldAddr, g_none, bin_eql, bin_neq, nil_ptr, resultsOf, oneOrAll, Option.map_some, Option.getD_some, decide_eq_true_eq, ↓reduceIte, Nat.reduceEqDiff, not_false_eq_true, not_true_eq_false, Nat.reduceAdd, reduceCtorEq, List.getElem?_cons_zero, List.getElem?_cons_succ, List.map_cons, List.map_nil, List.append_nil, List.nil_append, Bool.not_eq_eq_eq_not, Bool.not_true, ne_eq, decide_eq_false_iff_not, ↓cd_skip, ↓cd_seq, ↓cd_region, ↓cd_cond, ↓cd_block, ↓cd_ret, fa_ptr T43 p43_0 (by decide), load_p1 T23 a23, loadc_def, fa_ptr T43 p43_2 (by decide), load_p1 T40 a40, fa_ptr T53 p53_2 (by decide), load_p1 T3 a3, fa_ptr T53 p53_1 (by decide), fa_ptr T53 p53_0 (by decide), fa_ptr T53 p53_3 (by decide), fa_ptr T43 p43_4 (by decide), load_p1 T41 a41, o_mapUpdate, fa_ptr T53 p53_4 (by decide), load_p1 T48 a48, fa_ptr T53 p53_5 (by decide), load_p1 T4 a4, o_lookup, callV_fn (g := 12) (by decide), callV_fn (g := 13) (by decide), callV_fn (g := 21) (by decide), callV_fn (g := 46) (by decide), callV_fn (g := 48) (by decide), callV_fn (g := 50) (by decide), g1, bx1, eq_true con]
        simp +contextual (maxSteps := 3000000) only [aCond_bool, ↓run0_v, ↓run0_r, bin_eql, decide_eq_true_eq, ↓reduceIte, List.getElem?_cons_zero, List.getElem?_cons_succ, eq_true c0, k1, g2, bx2, ce, l1, decide_true]
        exact ⟨_, _, _, _, _, _, _, _, _, _, rfl, W4, hP.stepV (Nat.le_succ n) e2 (e3.mono (Nat.le_succ n)) (fun x hx hc => .inr ⟨x, hx, hc, rfl, rfl, rfl⟩), BB.want _ _, id⟩
    by_cases c1 : a.dd = 1
    · obtain ⟨e1, e2, e3⟩ := hP.a.Give hP.ia a.cl
      obtain ⟨h2, oV2, k1, k2, k3⟩ := V15 h32 h36 h58 h37 h57 h38 h39 h15 h59 h60 (m + 196) p a.cl V oV h1 W1.fv qV
      have W2 := W1.opV k2 k3
      have gB := k3.2 h.next (by omega) oB.1
      have g2 := gB.1.trans g1
      obtain ⟨h4, oQ2, l1, l2, l3⟩ := L47 h63 h64 h47 (m + 198) r a.cl Q oQ h2 W2.fq fV1
      have W4 := W2.opQ l2 l3
      rw [e1] at l1
      rw [call_code (by decide) h26 F26 rfl]; simp only [Tryd.f26, Option.getD]
      simp +contextual (maxSteps := 3000000) only [↓ops_nil, ↓ops_cons, run_none, ↓run0_v, ↓run0_r, ↓seqK_normal, env0_at, ev_tmp, ev_const, oc_bool, o_assign, o_box, g_none, Option.getD_some, List.getElem?_cons_zero, List.getElem?_cons_succ, ↓cd_seq, ↓cd_region, box_agg, ← hh1]
      rw [code_dr (by kernel_rfl) (by kernel_rfl)]
      simp +contextual (maxSteps := 3000000) only [aCond_bool, ↓ops_nil, ↓ops_cons, run_none, ↓run0_v, ↓seqK_normal, ↓seqK_ret, ↓blkK_normal, ↓blkK_ret, ↓retK_ret, put_same, put_ne, put_none, env0_at, ev_tmp, ev_const, ev_func, oc_int, o_move, o_assign, o_bin, o_call, o_load, o_nilCheck, o_fieldAddr, g_none, bin_eql, bin_neq, nil_ptr, resultsOf, oneOrAll, Option.map_some, Option.getD_some, decide_eq_true_eq, ↓reduceIte, Nat.reduceEqDiff, not_false_eq_true, not_true_eq_false, Nat.reduceAdd, reduceCtorEq, List.getElem?_cons_zero, List.getElem?_cons_succ, List.map_cons, List.map_nil, List.append_nil, List.nil_append, Bool.not_eq_eq_eq_not, Bool.not_true, ne_eq, decide_eq_false_iff_not, ↓cd_skip, ↓cd_seq, ↓cd_region, ↓cd_cond, ↓cd_block, ↓cd_ret, fa_ptr T43 p43_0 (by decide), load_p1 T23 a23, loadc_def, fa_ptr T43 p43_2 (by decide), load_p1 T40 a40, fa_ptr T53 p53_2 (by decide), load_p1 T3 a3, fa_ptr T53 p53_1 (by decide), fa_ptr T53 p53_0 (by decide), fa_ptr T53 p53_3 (by decide), fa_ptr T43 p43_4 (by decide), load_p1 T41 a41, o_mapUpdate, fa_ptr T53 p53_4 (by decide), load_p1 T48 a48, fa_ptr T53 p53_5 (by decide), load_p1 T4 a4, o_lookup, callV_fn (g := 12) (by decide), callV_fn (g := 13) (by decide), callV_fn (g := 21) (by decide), callV_fn (g := 46) (by decide), callV_fn (g := 48) (by decide), callV_fn (g := 50) (by decide), g1, bx1, eq_true con]
      simp +contextual (maxSteps := 3000000) only [↓reduceIte, c0, eq_true c1]
      rw [code_soft (ss := [(6, 0, 7)]) (by kernel_rfl) (by kernel_rfl) (by simp)]
      simp +contextual (maxSteps := 3000000) only [run_none, ↓run0_v, ↓run0_r, ↓seqK_normal, ↓seqK_ret, ↓blkK_ret, ↓retK_ret, put_same, put_ne, ev_tmp, ev_func, o_move, o_assign, o_bin, o_call, o_load, o_fieldAddr, g_none, bin_eql, resultsOf, oneOrAll, Option.map_some, Nat.reduceEqDiff, not_false_eq_true, Nat.reduceAdd, List.getElem?_cons_zero, List.getElem?_cons_succ, List.map_cons, List.map_nil, List.append_nil, List.nil_append, List.cons_append, Bool.not_true, ne_eq, ↓cd_ret, loadc_def, fa_ptr T53 p53_2 (by decide), load_p1 T3 a3, opsTr_nil, opsTr_cons, g1, k1, g2, l1, decide_true, callV_fn (g := 15) (by decide), callV_fn (g := 47) (by decide)]
      refine soft_Q (DoP n b mb p s r t V S) ?_ ?_
      rotate_left
      · simp +contextual (maxSteps := 3000000) only [run_none, ↓run0_v, put_same, ev_tmp, o_load, g_none, Nat.reduceAdd, List.getElem?_cons_zero, List.getElem?_cons_succ, List.getElem?_toArray, loadc_def, load_p1 T3 a3, softOk, sameAt, stepV, same_int, Bool.and_true, g1, g2]
      exact ⟨_, _, _, _, _, _, _, _, _, _, rfl, W4, hP.stepV (Nat.le_succ n) e2 (e3.mono (Nat.le_succ n)) (giveSub), BB.give _, id⟩
    by_cases c2 : a.dd = 2
    · obtain ⟨e1, e2, e3⟩ := hP.a.Send hP.ia a.cl a.n a.da a.en
      obtain ⟨h2, oV2, k1, k2, k3⟩ := V21c h30 h32 h57 h38 h39 h43 h42 h21 h60 (m + 189) p a.cl a.n (.lst false 1 a.da.length (bytes a.da)) a.en V oV h1 a.da W1.fv qV (fun x hx => by have := hP.ia.sb x hx; exact ⟨this.1.1, this.1.2, this.2.2.1⟩) (pc_lst a.da) (by have := hP.ia.q; omega) (by have := hP.ia.jl; omega)
      have W2 := W1.opV k2 k3
      have gB := k3.2 h.next (by omega) oB.1
      have g2 := gB.1.trans g1
      obtain ⟨h4, oQ2, l1, l2, l3⟩ := L48 h63 h64 h65 h48 (m + 198) r a.cl a.n (.lst false 1 a.da.length (bytes a.da)) a.en Q oQ h2 a.da W2.fq (pc_lst a.da) fV2 hda fV1 ⟨by have := fV5.1; omega, by have := fV5.2; omega⟩
      have W4 := W2.opQ l2 l3
      rw [e1] at l1
      rw [call_code (by decide) h26 F26 rfl]; simp only [Tryd.f26, Option.getD]
      simp +contextual (maxSteps := 3000000) only [↓ops_nil, ↓ops_cons, run_none, ↓run0_v, ↓run0_r, ↓seqK_normal, env0_at, ev_tmp, ev_const, oc_bool, o_assign, o_box, g_none, Option.getD_some, List.getElem?_cons_zero, List.getElem?_cons_succ, ↓cd_seq, ↓cd_region, box_agg, ← hh1]
      rw [code_dr (by kernel_rfl) (by kernel_rfl)]
      simp +contextual (maxSteps := 3000000) only [aCond_bool, ↓ops_nil, ↓ops_cons, run_none, ↓run0_v, ↓seqK_normal, ↓seqK_ret, ↓blkK_normal, ↓blkK_ret, ↓retK_ret, put_same, put_ne, put_none, env0_at, ev_tmp, ev_const, ev_func, oc_int, o_move, o_assign, o_bin, o_call, o_load, o_nilCheck, o_fieldAddr, g_none, bin_eql, bin_neq, nil_ptr, resultsOf, oneOrAll, Option.map_some, Option.getD_some, decide_eq_true_eq, ↓reduceIte, Nat.reduceEqDiff, not_false_eq_true, not_true_eq_false, Nat.reduceAdd, reduceCtorEq, List.getElem?_cons_zero, List.getElem?_cons_succ, List.map_cons, List.map_nil, List.append_nil, List.nil_append, Bool.not_eq_eq_eq_not, Bool.not_true, ne_eq, decide_eq_false_iff_not, ↓cd_skip, ↓cd_seq, ↓cd_region, ↓cd_cond, ↓cd_block, ↓cd_ret, fa_ptr T43 p43_0 (by decide), load_p1 T23 a23, loadc_def, fa_ptr T43 p43_2 (by decide), load_p1 T40 a40, fa_ptr T53 p53_2 (by decide), load_p1 T3 a3, fa_ptr T53 p53_1 (by decide), fa_ptr T53 p53_0 (by decide), fa_ptr T53 p53_3 (by decide), fa_ptr T43 p43_4 (by decide), load_p1 T41 a41, o_mapUpdate, fa_ptr T53 p53_4 (by decide), load_p1 T48 a48, fa_ptr T53 p53_5 (by decide), load_p1 T4 a4, o_lookup, callV_fn (g := 12) (by decide), callV_fn (g := 13) (by decide), callV_fn (g := 21) (by decide), callV_fn (g := 46) (by decide), callV_fn (g := 48) (by decide), callV_fn (g := 50) (by decide), g1, bx1, eq_true con]
      simp +contextual (maxSteps := 3000000) only [↓reduceIte, c0, c1, eq_true c2]
      rw [code_soft (ss := [(12, 0, 19), (14, 0, 19), (16, 0, 19), (18, 0, 19)]) (by kernel_rfl) (by kernel_rfl) (by simp)]
      simp +contextual (maxSteps := 3000000) only [run_none, ↓run0_v, ↓run0_r, ↓seqK_normal, ↓seqK_ret, ↓blkK_ret, ↓retK_ret, put_same, put_ne, ev_tmp, ev_func, o_move, o_assign, o_bin, o_call, o_load, o_fieldAddr, g_none, bin_eql, resultsOf, oneOrAll, Option.map_some, Nat.reduceEqDiff, not_false_eq_true, Nat.reduceAdd, List.getElem?_cons_zero, List.getElem?_cons_succ, List.map_cons, List.map_nil, List.append_nil, List.nil_append, List.cons_append, Bool.not_true, ne_eq, ↓cd_ret, loadc_def, fa_ptr T53 p53_2 (by decide), load_p1 T3 a3, fa_ptr T53 p53_3 (by decide), fa_ptr T53 p53_4 (by decide), load_p1 T48 a48, fa_ptr T53 p53_5 (by decide), load_p1 T4 a4, opsTr_nil, opsTr_cons, g1, k1, g2, l1, decide_true, callV_fn (g := 21) (by decide), callV_fn (g := 48) (by decide)]
      refine soft_Q (DoP n b mb p s r t V S) ?_ ?_
      rotate_left
      · simp +contextual (maxSteps := 3000000) only [run_none, ↓run0_v, put_same, ev_tmp, o_load, g_none, Nat.reduceAdd, List.getElem?_cons_zero, List.getElem?_cons_succ, List.getElem?_toArray, loadc_def, load_p1 T3 a3, load_p1 T48 a48, load_p1 T4 a4, softOk, sameAt, stepV, same_int, same_bool, Bool.and_true, g1, g2, same_lst (sameB a.da)]
      exact ⟨_, _, _, _, _, _, _, _, _, _, rfl, W4, hP.stepV (Nat.le_succ n) e2 e3 (sendSubV (List.nodup_append.1 hP.ia.nd).2.1), BB.send _ _ _ _, id⟩
    by_cases c4 : a.dd = 4
    · obtain ⟨e1, e2⟩ := hP.Forward
      obtain ⟨h2, oV2, k1, k2, k3, k4, k5, k6⟩ := V18 h32 h25 h58 h37 h57 h38 h33 h39 h43 h42 h18 h59 h60 (m + 79) s p S V oS oV h1 W1.fs W1.fv W1.pvs qS (by have := hP.sr; omega) hP.ia.q hP.ib.lf ⟨by have := hP.ib.jl; omega, by have := hP.ia.jl; omega⟩ hP.ib.jd (fun x hx => by have := hP.ia.sb x hx; exact ⟨this.1.1, this.1.2, this.2.2.1⟩) (fun w hw => (hP.ia.wb w hw).2.2) (fun x hx => (hP.ia.sb x hx).2.2.2.2) (fun x hx hc hj j hjj => fwPre (hP.sv x hx hc) hjj)
      have W2 := W1.opF k3 k2 k4 ⟨k5, fun c hc h1' h2' => ⟨(k6 c hc h1' h2').1, (k6 c hc h1' h2').2, h2'⟩⟩
      have gB := k6 h.next (by omega) oB.1 oB.2.1
      have g2 := gB.1.trans g1
      have bx2 := W2.bx
      obtain ⟨h4, oU2, oQ2, l1, l2, l3, l4, l5, l6⟩ := L49 h63 h62 h64 h65 h49 (m + 179) t r U Q oU oQ h2 W2.fu W2.fq W2.pqu hrt (by rw [hP.b.r]; have := hP.sr; omega) fV7 ⟨fU1, fV1⟩ ⟨by have := fV5.1; omega, by have := fV5.2; omega⟩ fV9 fVa fV2 fUb (fwSq hP) (fwAp hP)
      have W4 := W2.opG l3 l2 l4 ⟨l5, fun c hc h1' h2' => ⟨(l6 c hc h1' h2').1, (l6 c hc h1' h2').2.1, (l6 c hc h1' h2').2.2⟩⟩
      rw [e1] at l1
      rw [call_code (by decide) h26 F26 rfl]; simp only [Tryd.f26, Option.getD]
      simp +contextual (maxSteps := 3000000) only [↓ops_nil, ↓ops_cons, run_none, ↓run0_v, ↓run0_r, ↓seqK_normal, env0_at, ev_tmp, ev_const, oc_bool, o_assign, o_box, g_none, Option.getD_some, List.getElem?_cons_zero, List.getElem?_cons_succ, ↓cd_seq, ↓cd_region, box_agg, ← hh1]
      rw [code_dr (by kernel_rfl) (by kernel_rfl)]
      simp +contextual (maxSteps := 3000000) only [aCond_bool, ↓ops_nil, ↓ops_cons, run_none, ↓run0_v, ↓seqK_normal, ↓seqK_ret, ↓blkK_normal, ↓blkK_ret, ↓retK_ret, put_same, put_ne, put_none, env0_at, ev_tmp, ev_const, ev_func, oc_int, o_move, o_assign, o_bin, o_call, o_load, o_nilCheck, o_fieldAddr, g_none, bin_eql, bin_neq, nil_ptr, resultsOf, oneOrAll, Option.map_some, Option.getD_some, decide_eq_true_eq, ↓reduceIte, Nat.reduceEqDiff, not_false_eq_true, not_true_eq_false, Nat.reduceAdd, reduceCtorEq, List.getElem?_cons_zero, List.getElem?_cons_succ, List.map_cons, List.map_nil, List.append_nil, List.nil_append, Bool.not_eq_eq_eq_not, Bool.not_true, ne_eq, decide_eq_false_iff_not, ↓cd_skip, ↓cd_seq, ↓cd_region, ↓cd_cond, ↓cd_block, ↓cd_ret, fa_ptr T43 p43_0 (by decide), load_p1 T23 a23, loadc_def, fa_ptr T43 p43_2 (by decide), load_p1 T40 a40, fa_ptr T53 p53_2 (by decide), load_p1 T3 a3, fa_ptr T53 p53_1 (by decide), fa_ptr T53 p53_0 (by decide), fa_ptr T53 p53_3 (by decide), fa_ptr T43 p43_4 (by decide), load_p1 T41 a41, o_mapUpdate, fa_ptr T53 p53_4 (by decide), load_p1 T48 a48, fa_ptr T53 p53_5 (by decide), load_p1 T4 a4, o_lookup, callV_fn (g := 12) (by decide), callV_fn (g := 13) (by decide), callV_fn (g := 21) (by decide), callV_fn (g := 46) (by decide), callV_fn (g := 48) (by decide), callV_fn (g := 50) (by decide), g1, bx1, eq_true con]
      simp +contextual (maxSteps := 3000000) only [↓reduceIte, c0, c1, c2, eq_true c4]
      rw [code_soft (ss := [(12, 0, 17), (16, 0, 17)]) (by kernel_rfl) (by kernel_rfl) (by simp)]
      simp +contextual (maxSteps := 3000000) only [run_none, ↓run0_v, ↓run0_r, ↓seqK_normal, ↓seqK_ret, ↓blkK_ret, ↓retK_ret, put_same, put_ne, env0_at, ev_tmp, ev_func, o_move, o_assign, o_bin, o_call, o_load, o_nilCheck, o_fieldAddr, g_none, bin_eql, nil_ptr, resultsOf, oneOrAll, Option.map_some, Option.getD_some, Nat.reduceEqDiff, not_false_eq_true, Nat.reduceAdd, reduceCtorEq, List.getElem?_cons_zero, List.getElem?_cons_succ, List.map_cons, List.map_nil, List.append_nil, List.nil_append, List.cons_append, Bool.not_true, ne_eq, ↓cd_ret, fa_ptr T43 p43_0 (by decide), load_p1 T23 a23, loadc_def, fa_ptr T43 p43_2 (by decide), load_p1 T40 a40, fa_ptr T43 p43_1 (by decide), fa_ptr T43 p43_3 (by decide), opsTr_nil, opsTr_cons, bx1, k1, bx2, l1, decide_true, callV_fn (g := 18) (by decide), callV_fn (g := 49) (by decide)]
      refine soft_Q (DoP n b mb p s r t V S) ?_ ?_
      rotate_left
      · simp +contextual (maxSteps := 3000000) only [run_none, ↓run0_v, put_same, ev_tmp, o_load, g_none, Nat.reduceAdd, List.getElem?_cons_zero, List.getElem?_cons_succ, List.getElem?_toArray, loadc_def, load_p1 T40 a40, softOk, sameAt, stepV, same_ptr, Bool.and_true, bx1, bx2]
      exact ⟨_, _, _, _, _, _, _, _, _, _, rfl, W4, e2, BB.fw _ _, id⟩
    by_cases c5 : a.dd = 5
    · obtain ⟨M, hM⟩ : ∃ M, M = sq (a.cl) := ⟨_, rfl⟩
      have hlk := W1.mp.look m41 (a.cl)
      rw [← hM] at hlk
      obtain ⟨N, hN⟩ : ∃ N, N = IntKind.i64.wrap (M.tmod 255 + 1) := ⟨_, rfl⟩
      have u1 : IntKind.i64.wrap (M.tmod 255) = M.tmod 255 := by have h1 := tmod_b M; exact wrap_i64 (by omega) (by omega)
      have u3 : IntKind.i64.wrap (M.tmod 255 + 1) = N := hN.symm
      obtain ⟨e1, e2, e3⟩ := hP.a.Send hP.ia a.cl N a.da a.en
      obtain ⟨h2, oV2, k1, k2, k3⟩ := V21c h30 h32 h57 h38 h39 h43 h42 h21 h60 (m + 189) p a.cl N (.lst false 1 a.da.length (bytes a.da)) a.en V oV h1 a.da W1.fv qV (fun x hx => by have := hP.ia.sb x hx; exact ⟨this.1.1, this.1.2, this.2.2.1⟩) (pc_lst a.da) (by have := hP.ia.q; omega) (by have := hP.ia.jl; omega)
      have W2 := W1.opV k2 k3
      have gB := k3.2 h.next (by omega) oB.1
      have g2 := gB.1.trans g1
      have bx2 := W2.bx
      by_cases ce : (SendV V a.cl N a.da a.en).1 = 0
      · obtain ⟨h3, x1, x2, x3, x4⟩ := W2.mp.upd m41 (a.cl) N
        have W3 := W2.map x2 x3 x4
        have g3 := (x4 h.next hBn).trans g2
        obtain ⟨h4, oQ2, l1, l2, l3⟩ := L48 h63 h64 h65 h48 (m + 198) r a.cl N (.lst false 1 a.da.length (bytes a.da)) a.en Q oQ h3 a.da W3.fq (pc_lst a.da) fV2 hda fV1 ⟨by have := fV5.1; omega, by have := fV5.2; omega⟩
        have W4 := W3.opQ l2 l3
        rw [e1] at l1
        rw [call_code (by decide) h26 F26 rfl]; simp only [Tryd.f26, Option.getD]
        simp +contextual (maxSteps := 3000000) only [↓ops_nil, ↓ops_cons, run_none, ↓run0_v, ↓run0_r, ↓seqK_normal, env0_at, ev_tmp, ev_const, oc_bool, o_assign, o_box, g_none, Option.getD_some, List.getElem?_cons_zero, List.getElem?_cons_succ, ↓cd_seq, ↓cd_region, box_agg, ← hh1]
        rw [code_dr (by kernel_rfl) (by kernel_rfl)]
        simp +contextual (maxSteps := 3000000) only [aCond_bool, ↓ops_nil, ↓ops_cons, run_none, ↓run0_v, ↓seqK_normal, ↓seqK_ret, ↓blkK_normal, ↓blkK_ret, ↓retK_ret, put_same, put_ne, put_none, env0_at, ev_tmp, ev_const, ev_func, oc_int, o_move, o_assign, o_bin, o_call, o_load, o_nilCheck, o_fieldAddr, g_none, bin_eql, bin_neq, nil_ptr, resultsOf, oneOrAll, Option.map_some, Option.getD_some, decide_eq_true_eq, ↓reduceIte, Nat.reduceEqDiff, not_false_eq_true, not_true_eq_false, Nat.reduceAdd, reduceCtorEq, List.getElem?_cons_zero, List.getElem?_cons_succ, List.map_cons, List.map_nil, List.append_nil, List.nil_append, Bool.not_eq_eq_eq_not, Bool.not_true, ne_eq, decide_eq_false_iff_not, ↓cd_skip, ↓cd_seq, ↓cd_region, ↓cd_cond, ↓cd_block, ↓cd_ret, fa_ptr T43 p43_0 (by decide), load_p1 T23 a23, loadc_def, fa_ptr T43 p43_2 (by decide), load_p1 T40 a40, fa_ptr T53 p53_2 (by decide), load_p1 T3 a3, fa_ptr T53 p53_1 (by decide), fa_ptr T53 p53_0 (by decide), fa_ptr T53 p53_3 (by decide), fa_ptr T43 p43_4 (by decide), load_p1 T41 a41, o_mapUpdate, fa_ptr T53 p53_4 (by decide), load_p1 T48 a48, fa_ptr T53 p53_5 (by decide), load_p1 T4 a4, o_lookup, callV_fn (g := 12) (by decide), callV_fn (g := 13) (by decide), callV_fn (g := 21) (by decide), callV_fn (g := 46) (by decide), callV_fn (g := 48) (by decide), callV_fn (g := 50) (by decide), g1, bx1, eq_true con]
        simp +contextual (maxSteps := 3000000) only [aCond_bool, ↓run0_v, ↓run0_h, ↓run0_r, bin_add, bin_rem, bin_eql, ↓reduceIte, List.getElem?_cons_zero, List.getElem?_cons_succ, g1, c0, c1, c2, c4, eq_true c5, hlk, u3, (show ¬ (255 : Int) = 0 by decide), k1, g2, bx2, eq_true ce, x1, g3, l1, decide_true]
        exact ⟨_, _, _, _, _, _, _, _, _, _, rfl, W4, hP.stepV (Nat.le_succ n) e2 e3 (sendSubV (List.nodup_append.1 hP.ia.nd).2.1), BB.send _ _ _ _, id⟩
      · have W3 := W2
        have g3 := g2
        obtain ⟨h4, oQ2, l1, l2, l3⟩ := L48 h63 h64 h65 h48 (m + 198) r a.cl N (.lst false 1 a.da.length (bytes a.da)) a.en Q oQ h2 a.da W3.fq (pc_lst a.da) fV2 hda fV1 ⟨by have := fV5.1; omega, by have := fV5.2; omega⟩
        have W4 := W3.opQ l2 l3
        rw [e1] at l1
        rw [call_code (by decide) h26 F26 rfl]; simp only [Tryd.f26, Option.getD]
        simp +contextual (maxSteps := 3000000) only [↓ops_nil, ↓ops_cons, run_none, ↓run0_v, ↓run0_r, ↓seqK_normal, env0_at, ev_tmp, ev_const, oc_bool, o_assign, o_box, g_none, Option.getD_some, List.getElem?_cons_zero, List.getElem?_cons_succ, ↓cd_seq, ↓cd_region, box_agg, ← hh1]
        rw [code_dr (by kernel_rfl) (by kernel_rfl)]
        simp +contextual (maxSteps := 3000000) only [aCond_bool, ↓ops_nil, ↓ops_cons, run_none, ↓run0_v, ↓seqK_normal, ↓seqK_ret, ↓blkK_normal, ↓blkK_ret, ↓retK_ret, put_same, put_ne, put_none, env0_at, ev_tmp, ev_const, ev_func, oc_int, o_move, o_assign, o_bin, o_call, o_load, o_nilCheck, o_fieldAddr, g_none, bin_eql, bin_neq, nil_ptr, resultsOf, oneOrAll, Option.map_some, Option.getD_some, decide_eq_true_eq, ↓reduceIte, Nat.reduceEqDiff, not_false_eq_true, not_true_eq_false, Nat.reduceAdd, reduceCtorEq, List.getElem?_cons_zero, List.getElem?_cons_succ, List.map_cons, List.map_nil, List.append_nil, List.nil_append, Bool.not_eq_eq_eq_not, Bool.not_true, ne_eq, decide_eq_false_iff_not, ↓cd_skip, ↓cd_seq, ↓cd_region, ↓cd_cond, ↓cd_block, ↓cd_ret, fa_ptr T43 p43_0 (by decide), load_p1 T23 a23, loadc_def, fa_ptr T43 p43_2 (by decide), load_p1 T40 a40, fa_ptr T53 p53_2 (by decide), load_p1 T3 a3, fa_ptr T53 p53_1 (by decide), fa_ptr T53 p53_0 (by decide), fa_ptr T53 p53_3 (by decide), fa_ptr T43 p43_4 (by decide), load_p1 T41 a41, o_mapUpdate, fa_ptr T53 p53_4 (by decide), load_p1 T48 a48, fa_ptr T53 p53_5 (by decide), load_p1 T4 a4, o_lookup, callV_fn (g := 12) (by decide), callV_fn (g := 13) (by decide), callV_fn (g := 21) (by decide), callV_fn (g := 46) (by decide), callV_fn (g := 48) (by decide), callV_fn (g := 50) (by decide), g1, bx1, eq_true con]
        simp +contextual (maxSteps := 3000000) only [aCond_bool, ↓run0_v, ↓run0_r, bin_add, bin_rem, bin_eql, decide_eq_true_eq, ↓reduceIte, List.getElem?_cons_zero, List.getElem?_cons_succ, g1, c0, c1, c2, c4, eq_true c5, hlk, u3, (show ¬ (255 : Int) = 0 by decide), k1, g2, bx2, ce, l1, decide_true]
        exact ⟨_, _, _, _, _, _, _, _, _, _, rfl, W4, hP.stepV (Nat.le_succ n) e2 e3 (sendSubV (List.nodup_append.1 hP.ia.nd).2.1), BB.send _ _ _ _, id⟩
    obtain ⟨e2, e3⟩ := hP.a.Tick hP.ia
    obtain ⟨h2, oV2, k1, k2, k3⟩ := V13 h32 h57 h34 h35 h36 h13 h35 (m + 99) p V oV h1 W1.fv qV hP.ia.r (fun w hw => by have := (hP.ia.wb w hw).1; omega) (fun x hx => by have := (hP.ia.sb x hx).2.1; omega)
    have W2 := W1.opV k2 k3
    obtain ⟨h4, oQ2, l1, l2, l3⟩ := L50 h64 h50 (m + 99) r Q oQ h2 W2.fq fV1 fV6 (fun w hw => by have := fV3 w hw; omega) (fun x hx => by have := fV4 x hx; omega)
    have W4 := W2.opQ l2 l3
    rw [call_code (by decide) h26 F26 rfl]; simp only [Tryd.f26, Option.getD]
    simp +contextual (maxSteps := 3000000) only [↓ops_nil, ↓ops_cons, run_none, ↓run0_v, ↓run0_r, ↓seqK_normal, env0_at, ev_tmp, ev_const, oc_bool, o_assign, o_box, g_none, Option.getD_some, List.getElem?_cons_zero, List.getElem?_cons_succ, ↓cd_seq, ↓cd_region, box_agg, ← hh1]
    rw [code_dr (by kernel_rfl) (by kernel_rfl)]
    simp +contextual (maxSteps := 3000000) only [aCond_bool, ↓ops_nil, ↓ops_cons, run_none, ↓run0_v, ↓seqK_normal, ↓seqK_ret, ↓blkK_normal, ↓blkK_ret, ↓retK_ret, put_same, put_ne, put_none, env0_at, ev_tmp, ev_const, ev_func, oc_int, o_move, o_assign, o_bin, o_call, o_load, o_nilCheck, o_fieldAddr, g_none, bin_eql, bin_neq, nil_ptr, resultsOf, oneOrAll, Option.map_some, Option.getD_some, decide_eq_true_eq, ↓reduceIte, Nat.reduceEqDiff, not_false_eq_true, not_true_eq_false, Nat.reduceAdd, reduceCtorEq, List.getElem?_cons_zero, List.getElem?_cons_succ, List.map_cons, List.map_nil, List.append_nil, List.nil_append, Bool.not_eq_eq_eq_not, Bool.not_true, ne_eq, decide_eq_false_iff_not, ↓cd_skip, ↓cd_seq, ↓cd_region, ↓cd_cond, ↓cd_block, ↓cd_ret, fa_ptr T43 p43_0 (by decide), load_p1 T23 a23, loadc_def, fa_ptr T43 p43_2 (by decide), load_p1 T40 a40, fa_ptr T53 p53_2 (by decide), load_p1 T3 a3, fa_ptr T53 p53_1 (by decide), fa_ptr T53 p53_0 (by decide), fa_ptr T53 p53_3 (by decide), fa_ptr T43 p43_4 (by decide), load_p1 T41 a41, o_mapUpdate, fa_ptr T53 p53_4 (by decide), load_p1 T48 a48, fa_ptr T53 p53_5 (by decide), load_p1 T4 a4, o_lookup, callV_fn (g := 12) (by decide), callV_fn (g := 13) (by decide), callV_fn (g := 21) (by decide), callV_fn (g := 46) (by decide), callV_fn (g := 48) (by decide), callV_fn (g := 50) (by decide), g1, bx1, eq_true con]
    simp +contextual (maxSteps := 3000000) only [↓run0_v, ↓run0_r, bin_eql, ↓reduceIte, c0, c1, c2, c4, c5, k1, l1, decide_true]
    first
    | rw [code_dr (by kernel_rfl) (by kernel_rfl)]
      simp +contextual (maxSteps := 3000000) only [↓code_skip, ↓code_seq, ↓code_region, ↓code_cond, ↓code_block, ↓code_scope, ↓code_label, ↓code_loop, ↓code_exit, ↓code_ret, aCond_bool, ↓ops_nil, ↓ops_cons, run_none, run_someT, run_someF, run_tup, ↓run0_v, ↓run0_h, ↓run0_r, ↓seqK_normal, ↓seqK_exit, ↓seqK_ret, ↓blkK_normal, ↓blkK_ret, ↓blkK_exit, ↓retK_normal, ↓retK_ret, put_same, put_ne, put_none, env0_at, ev_tmp, ev_const, ev_func, oc_int, oc_bool, oc_str, oc_nils, oc_nilp, oc_nilf, oc_nilm, o_move, o_assign, o_pick, o_bin, o_call, o_len, o_alloc, o_box, o_build, o_buildSlice, o_load, o_store, o_nilCheck, o_un, o_convert, o_makeFunc, o_makeSlice, o_slice, o_fieldAddr, o_field, o_indexAddr, o_index, o_extract, o_append, o_min, o_max, g_none, g_some, pick_bool, bin_add, bin_sub, bin_mul, bin_quo, bin_rem, bin_eql, bin_neq, bin_or, bin_and, bin_lss, bin_leq, bin_gtr, bin_geq, bin_shr, bin_shl, str_add, str_eql, str_neq, un_not, extract_tup, nil_ptr, nil_fp, part_1, part_A, next_e0, next_one, get_e0, resultsOf, oneOrAll, Option.bind_some, Option.map_some, Option.map_none, Option.getD_some, decide_eq_true_eq, ↓reduceIte, Nat.reduceEqDiff, not_false_eq_true, not_true_eq_false, Nat.reduceAdd, Nat.reduceMul, reduceCtorEq, if_true, if_false, Nat.succ_ne_self, List.getElem?_cons_zero, List.getElem?_cons_succ, List.getElem?_toArray, Bool.false_eq_true, Bool.true_eq_false, List.map_cons, List.map_nil, List.append_nil, List.nil_append, List.cons_append, AH.get_alloc, AH.get_put, AH.next_alloc, AH.next_put, ite_self, true_and, and_true, Nat.reduceLeDiff, Nat.le_refl, gt_iff_lt, ge_iff_le, Bool.not_eq_true', Bool.not_eq_eq_eq_not, Bool.not_true, Bool.not_false, Bool.not_eq_false', Bool.not_not, beq_iff_eq, bne_iff_ne, ne_eq, decide_eq_false_iff_not, ↓cd_skip, ↓cd_seq, ↓cd_region, ↓cd_cond, ↓cd_block, ↓cd_exit, ↓cd_ret, box_str, box_int, box_bool, box_agg, box_lst, box_nils, box_sl, box_ptr, box_fn, fa_ptr T43 p43_0 (by decide), fa_fp T43 p43_0 (by decide), load_fp1 T23 a23, load_p1 T23 a23, loadc_def, fa_ptr T43 p43_2 (by decide), fa_fp T43 p43_2 (by decide), load_fp1 T40 a40, load_p1 T40 a40, fa_ptr T53 p53_2 (by decide), fa_fp T53 p53_2 (by decide), load_fp1 T3 a3, load_p1 T3 a3, fa_ptr T53 p53_1 (by decide), fa_fp T53 p53_1 (by decide), fa_ptr T43 p43_1 (by decide), fa_fp T43 p43_1 (by decide), fa_ptr T43 p43_3 (by decide), fa_fp T43 p43_3 (by decide), fa_ptr T53 p53_0 (by decide), fa_fp T53 p53_0 (by decide), fa_ptr T53 p53_3 (by decide), fa_fp T53 p53_3 (by decide), fa_ptr T43 p43_4 (by decide), fa_fp T43 p43_4 (by decide), load_fp1 T41 a41, load_p1 T41 a41, o_mapUpdate, fa_ptr T53 p53_4 (by decide), fa_fp T53 p53_4 (by decide), load_fp1 T48 a48, load_p1 T48 a48, fa_ptr T53 p53_5 (by decide), fa_fp T53 p53_5 (by decide), load_fp1 T4 a4, load_p1 T4 a4, o_lookup, callV_fn (g := 12) (by decide), callV_fn (g := 13) (by decide), callV_fn (g := 15) (by decide), callV_fn (g := 18) (by decide), callV_fn (g := 21) (by decide), callV_fn (g := 46) (by decide), callV_fn (g := 47) (by decide), callV_fn (g := 48) (by decide), callV_fn (g := 49) (by decide), callV_fn (g := 50) (by decide), g1, bx1, k1, l1, decide_true, callV_fn (g := 13) (by decide), callV_fn (g := 50) (by decide)]
    | skip
    exact ⟨_, _, _, _, _, _, _, _, _, _, rfl, W4, hP.stepV (Nat.le_succ n) e2 e3 (tickSub), BB.tick, id⟩
  · by_cases c0 : a.dd = 0
    · obtain ⟨e1, e2, e3⟩ := hP.b.Want hP.ib a.cl a.n hcl
      obtain ⟨h2, oV2, k1, k2, k3⟩ := V12 h30 h32 h58 h37 h57 h38 h33 h12 h59 h60 (m + 196) s a.cl a.n S oS h1 W1.fs qS
      have W2 := W1.opS k2 k3
      have gB := k3.2 h.next (by omega) oB.2.1
      have g2 := gB.1.trans g1
      have bx2 := W2.bx
      by_cases ce : WantEV S a.cl a.n = 0
      · obtain ⟨h3, x1, x2, x3, x4⟩ := W2.mp.upd m41 (IntKind.i64.wrap (a.cl + 1000)) 0
        have W3 := W2.map x2 x3 x4
        have g3 := (x4 h.next hBn).trans g2
        obtain ⟨h4, oQ2, l1, l2, l3⟩ := L46 h63 h62 h46 (m + 198) t a.cl a.n U oU h3 W3.fu fU1
        have W4 := W3.opU l2 l3
        rw [e1] at l1
        rw [call_code (by decide) h26 F26 rfl]; simp only [Tryd.f26, Option.getD]
        simp +contextual (maxSteps := 3000000) only [↓ops_nil, ↓ops_cons, run_none, ↓run0_v, ↓run0_r, ↓seqK_normal, env0_at, ev_tmp, ev_const, oc_bool, o_assign, o_box, g_none, Option.getD_some, List.getElem?_cons_zero, List.getElem?_cons_succ, ↓cd_seq, ↓cd_region, box_agg, ← hh1]
        rw [code_dr (by kernel_rfl) (by kernel_rfl)]
        simp +contextual (maxSteps := 3000000) only [aCond_bool, ↓ops_nil, ↓ops_cons, run_none, ↓run0_v, ↓seqK_normal, put_same, put_ne, env0_at, ev_tmp, ev_const, oc_int, o_move, o_assign, o_bin, o_load, o_nilCheck, o_fieldAddr, g_none, bin_neq, nil_ptr, Option.getD_some, ↓reduceIte, Nat.reduceEqDiff, not_false_eq_true, Nat.reduceAdd, reduceCtorEq, List.getElem?_cons_zero, List.getElem?_cons_succ, Bool.not_eq_eq_eq_not, Bool.not_true, ne_eq, decide_eq_false_iff_not, ↓cd_seq, ↓cd_region, ↓cd_cond, fa_ptr T43 p43_0 (by decide), load_p1 T23 a23, loadc_def, fa_ptr T43 p43_2 (by decide), load_p1 T40 a40, fa_ptr T53 p53_2 (by decide), load_p1 T3 a3, fa_ptr T53 p53_1 (by decide), g1, bx1, con]
        rw [code_dr (by kernel_rfl) (by kernel_rfl)]
        simp +contextual (maxSteps := 3000000) only [aCond_bool, ↓ops_nil, ↓ops_cons, run_none, ↓run0_v, ↓run0_h, ↓run0_r, ↓seqK_normal, ↓seqK_ret, ↓blkK_ret, ↓retK_ret, put_same, put_ne, put_none, env0_at, ev_tmp, ev_const, ev_func, oc_int, o_move, o_assign, o_bin, o_call, o_load, o_nilCheck, o_fieldAddr, g_none, bin_add, bin_eql, nil_ptr, resultsOf, oneOrAll, Option.map_some, Option.getD_some, ↓reduceIte, Nat.reduceEqDiff, not_false_eq_true, Nat.reduceAdd, reduceCtorEq, List.getElem?_cons_zero, List.getElem?_cons_succ, List.map_cons, List.map_nil, List.append_nil, List.nil_append, ne_eq, ↓cd_seq, ↓cd_region, ↓cd_cond, ↓cd_block, ↓cd_ret, load_p1 T23 a23, loadc_def, load_p1 T40 a40, fa_ptr T53 p53_2 (by decide), load_p1 T3 a3, fa_ptr T43 p43_1 (by decide), fa_ptr T43 p43_3 (by decide), fa_ptr T53 p53_0 (by decide), fa_ptr T53 p53_3 (by decide), fa_ptr T43 p43_4 (by decide), load_p1 T41 a41, o_mapUpdate, g1, bx1, eq_true c0, k1, bx2, eq_true ce, x1, g3, l1, decide_true, callV_fn (g := 12) (by decide), callV_fn (g := 46) (by decide)]
        exact ⟨_, _, _, _, _, _, _, _, _, _, rfl, W4, hP.stepS (Nat.le_succ n) e2 (e3.mono (Nat.le_succ n)) rfl rfl ⟨[], (List.append_nil _).symm⟩ rfl rfl, id, BB.want _ _⟩
      · obtain ⟨h4, oQ2, l1, l2, l3⟩ := L46 h63 h62 h46 (m + 198) t a.cl a.n U oU h2 W2.fu fU1
        have W4 := W2.opU l2 l3
        rw [e1] at l1
        rw [call_code (by decide) h26 F26 rfl]; simp only [Tryd.f26, Option.getD]
        simp +contextual (maxSteps := 3000000) only [↓ops_nil, ↓ops_cons, run_none, ↓run0_v, ↓run0_r, ↓seqK_normal, env0_at, ev_tmp, ev_const, oc_bool, o_assign, o_box, g_none, Option.getD_some, List.getElem?_cons_zero, List.getElem?_cons_succ, ↓cd_seq, ↓cd_region, box_agg, ← hh1]
        rw [code_dr (by kernel_rfl) (by kernel_rfl)]
        simp +contextual (maxSteps := 3000000) only [aCond_bool, ↓ops_nil, ↓ops_cons, run_none, ↓run0_v, ↓seqK_normal, put_same, put_ne, env0_at, ev_tmp, ev_const, oc_int, o_move, o_assign, o_bin, o_load, o_nilCheck, o_fieldAddr, g_none, bin_neq, nil_ptr, Option.getD_some, ↓reduceIte, Nat.reduceEqDiff, not_false_eq_true, Nat.reduceAdd, reduceCtorEq, List.getElem?_cons_zero, List.getElem?_cons_succ, Bool.not_eq_eq_eq_not, Bool.not_true, ne_eq, decide_eq_false_iff_not, ↓cd_seq, ↓cd_region, ↓cd_cond, fa_ptr T43 p43_0 (by decide), load_p1 T23 a23, loadc_def, fa_ptr T43 p43_2 (by decide), load_p1 T40 a40, fa_ptr T53 p53_2 (by decide), load_p1 T3 a3, fa_ptr T53 p53_1 (by decide), g1, bx1, con]
        rw [code_dr (by kernel_rfl) (by kernel_rfl)]
        simp +contextual (maxSteps := 3000000) only [aCond_bool, ↓ops_nil, ↓ops_cons, run_none, ↓run0_v, ↓run0_r, ↓seqK_normal, ↓seqK_ret, ↓blkK_ret, ↓retK_ret, put_same, put_ne, env0_at, ev_tmp, ev_const, ev_func, oc_int, o_move, o_assign, o_bin, o_call, o_load, o_nilCheck, o_fieldAddr, g_none, bin_add, bin_eql, nil_ptr, resultsOf, oneOrAll, Option.map_some, Option.getD_some, decide_eq_true_eq, ↓reduceIte, Nat.reduceEqDiff, not_false_eq_true, Nat.reduceAdd, reduceCtorEq, List.getElem?_cons_zero, List.getElem?_cons_succ, List.map_cons, List.map_nil, List.append_nil, List.nil_append, ne_eq, ↓cd_skip, ↓cd_seq, ↓cd_region, ↓cd_cond, ↓cd_block, ↓cd_ret, load_p1 T23 a23, loadc_def, load_p1 T40 a40, fa_ptr T53 p53_2 (by decide), load_p1 T3 a3, fa_ptr T43 p43_1 (by decide), fa_ptr T43 p43_3 (by decide), fa_ptr T53 p53_0 (by decide), fa_ptr T53 p53_3 (by decide), g1, bx1, eq_true c0, k1, g2, ce, l1, decide_true, callV_fn (g := 12) (by decide), callV_fn (g := 46) (by decide)]
        exact ⟨_, _, _, _, _, _, _, _, _, _, rfl, W4, hP.stepS (Nat.le_succ n) e2 (e3.mono (Nat.le_succ n)) rfl rfl ⟨[], (List.append_nil _).symm⟩ rfl rfl, id, BB.want _ _⟩
    by_cases c1 : a.dd = 1
    · obtain ⟨e1, e2, e3⟩ := hP.b.Give hP.ib a.cl
      obtain ⟨h2, oV2, k1, k2, k3⟩ := V15 h32 h36 h58 h37 h57 h38 h39 h15 h59 h60 (m + 196) s a.cl S oS h1 W1.fs qS
      have W2 := W1.opS k2 k3
      have gB := k3.2 h.next (by omega) oB.2.1
      have g2 := gB.1.trans g1
      obtain ⟨h4, oQ2, l1, l2, l3⟩ := L47 h63 h64 h47 (m + 198) t a.cl U oU h2 W2.fu fU1
      have W4 := W2.opU l2 l3
      rw [e1] at l1
      rw [call_code (by decide) h26 F26 rfl]; simp only [Tryd.f26, Option.getD]
      simp +contextual (maxSteps := 3000000) only [↓ops_nil, ↓ops_cons, run_none, ↓run0_v, ↓run0_r, ↓seqK_normal, env0_at, ev_tmp, ev_const, oc_bool, o_assign, o_box, g_none, Option.getD_some, List.getElem?_cons_zero, List.getElem?_cons_succ, ↓cd_seq, ↓cd_region, box_agg, ← hh1]
      rw [code_dr (by kernel_rfl) (by kernel_rfl)]
      simp +contextual (maxSteps := 3000000) only [aCond_bool, ↓ops_nil, ↓ops_cons, run_none, ↓run0_v, ↓seqK_normal, put_same, put_ne, env0_at, ev_tmp, ev_const, oc_int, o_move, o_assign, o_bin, o_load, o_nilCheck, o_fieldAddr, g_none, bin_neq, nil_ptr, Option.getD_some, ↓reduceIte, Nat.reduceEqDiff, not_false_eq_true, Nat.reduceAdd, reduceCtorEq, List.getElem?_cons_zero, List.getElem?_cons_succ, Bool.not_eq_eq_eq_not, Bool.not_true, ne_eq, decide_eq_false_iff_not, ↓cd_seq, ↓cd_region, ↓cd_cond, fa_ptr T43 p43_0 (by decide), load_p1 T23 a23, loadc_def, fa_ptr T43 p43_2 (by decide), load_p1 T40 a40, fa_ptr T53 p53_2 (by decide), load_p1 T3 a3, fa_ptr T53 p53_1 (by decide), g1, bx1, con]
      rw [code_dr (by kernel_rfl) (by kernel_rfl)]
      simp +contextual (maxSteps := 3000000) only [aCond_bool, ↓ops_nil, ↓ops_cons, run_none, ↓run0_v, ↓seqK_normal, put_same, put_ne, env0_at, ev_tmp, ev_const, oc_int, o_move, o_assign, o_bin, o_load, o_nilCheck, o_fieldAddr, g_none, bin_add, bin_eql, nil_ptr, Option.getD_some, decide_eq_true_eq, ↓reduceIte, Nat.reduceEqDiff, not_false_eq_true, Nat.reduceAdd, reduceCtorEq, List.getElem?_cons_zero, List.getElem?_cons_succ, ne_eq, ↓cd_seq, ↓cd_region, ↓cd_cond, ↓cd_block, load_p1 T23 a23, loadc_def, load_p1 T40 a40, fa_ptr T53 p53_2 (by decide), load_p1 T3 a3, fa_ptr T43 p43_1 (by decide), fa_ptr T43 p43_3 (by decide), fa_ptr T53 p53_0 (by decide), g1, bx1, c0, eq_true c1]
      rw [code_soft (ss := [(6, 0, 7)]) (by kernel_rfl) (by kernel_rfl) (by simp)]
      simp +contextual (maxSteps := 3000000) only [run_none, ↓run0_v, ↓run0_r, ↓seqK_normal, ↓seqK_ret, ↓blkK_ret, ↓retK_ret, put_same, put_ne, ev_tmp, ev_func, o_move, o_assign, o_bin, o_call, o_load, o_fieldAddr, g_none, bin_eql, resultsOf, oneOrAll, Option.map_some, Nat.reduceEqDiff, not_false_eq_true, Nat.reduceAdd, List.getElem?_cons_zero, List.getElem?_cons_succ, List.map_cons, List.map_nil, List.append_nil, List.nil_append, List.cons_append, ne_eq, ↓cd_ret, loadc_def, fa_ptr T53 p53_2 (by decide), load_p1 T3 a3, opsTr_nil, opsTr_cons, g1, k1, g2, l1, decide_true, callV_fn (g := 15) (by decide), callV_fn (g := 47) (by decide)]
      refine soft_Q (DoP n b mb p s r t V S) ?_ ?_
      rotate_left
      · simp +contextual (maxSteps := 3000000) only [run_none, ↓run0_v, put_same, ev_tmp, o_load, g_none, Nat.reduceAdd, List.getElem?_cons_zero, List.getElem?_cons_succ, List.getElem?_toArray, loadc_def, load_p1 T3 a3, softOk, sameAt, stepV, same_int, Bool.and_true, g1, g2]
      exact ⟨_, _, _, _, _, _, _, _, _, _, rfl, W4, hP.stepS (Nat.le_succ n) e2 (e3.mono (Nat.le_succ n)) (giveFix S a.cl).1 (giveFix S a.cl).2.1 ⟨[], by rw [(giveFix S a.cl).2.2]; exact (List.append_nil _).symm⟩ (giveFixT U a.cl).1 (giveFixT U a.cl).2, id, BB.give _⟩
    by_cases c2 : a.dd = 2
    · obtain ⟨e1, e2, e3⟩ := hP.b.Send hP.ib a.cl a.n a.da a.en
      obtain ⟨h2, oV2, k1, k2, k3⟩ := V21c h30 h32 h57 h38 h39 h43 h42 h21 h60 (m + 189) s a.cl a.n (.lst false 1 a.da.length (bytes a.da)) a.en S oS h1 a.da W1.fs qS (fun x hx => by have := hP.ib.sb x hx; exact ⟨this.1.1, this.1.2, this.2.2.1⟩) (pc_lst a.da) (by have := hP.ib.q; omega) (by have := hP.ib.jl; omega)
      have W2 := W1.opS k2 k3
      have gB := k3.2 h.next (by omega) oB.2.1
      have g2 := gB.1.trans g1
      obtain ⟨h4, oQ2, l1, l2, l3⟩ := L48 h63 h64 h65 h48 (m + 198) t a.cl a.n (.lst false 1 a.da.length (bytes a.da)) a.en U oU h2 a.da W2.fu (pc_lst a.da) fU2 hda fU1 ⟨by have := fU5.1; omega, by have := fU5.2; omega⟩
      have W4 := W2.opU l2 l3
      rw [e1] at l1
      rw [call_code (by decide) h26 F26 rfl]; simp only [Tryd.f26, Option.getD]
      simp +contextual (maxSteps := 3000000) only [↓ops_nil, ↓ops_cons, run_none, ↓run0_v, ↓run0_r, ↓seqK_normal, env0_at, ev_tmp, ev_const, oc_bool, o_assign, o_box, g_none, Option.getD_some, List.getElem?_cons_zero, List.getElem?_cons_succ, ↓cd_seq, ↓cd_region, box_agg, ← hh1]
      rw [code_dr (by kernel_rfl) (by kernel_rfl)]
      simp +contextual (maxSteps := 3000000) only [aCond_bool, ↓ops_nil, ↓ops_cons, run_none, ↓run0_v, ↓seqK_normal, put_same, put_ne, env0_at, ev_tmp, ev_const, oc_int, o_move, o_assign, o_bin, o_load, o_nilCheck, o_fieldAddr, g_none, bin_neq, nil_ptr, Option.getD_some, ↓reduceIte, Nat.reduceEqDiff, not_false_eq_true, Nat.reduceAdd, reduceCtorEq, List.getElem?_cons_zero, List.getElem?_cons_succ, Bool.not_eq_eq_eq_not, Bool.not_true, ne_eq, decide_eq_false_iff_not, ↓cd_seq, ↓cd_region, ↓cd_cond, fa_ptr T43 p43_0 (by decide), load_p1 T23 a23, loadc_def, fa_ptr T43 p43_2 (by decide), load_p1 T40 a40, fa_ptr T53 p53_2 (by decide), load_p1 T3 a3, fa_ptr T53 p53_1 (by decide), g1, bx1, con]
      rw [code_dr (by kernel_rfl) (by kernel_rfl)]
      simp +contextual (maxSteps := 3000000) only [aCond_bool, ↓ops_nil, ↓ops_cons, run_none, ↓run0_v, ↓seqK_normal, put_same, put_ne, env0_at, ev_tmp, ev_const, oc_int, o_move, o_assign, o_bin, o_load, o_nilCheck, o_fieldAddr, g_none, bin_add, bin_eql, nil_ptr, Option.getD_some, decide_eq_true_eq, ↓reduceIte, Nat.reduceEqDiff, not_false_eq_true, Nat.reduceAdd, reduceCtorEq, List.getElem?_cons_zero, List.getElem?_cons_succ, ne_eq, ↓cd_seq, ↓cd_region, ↓cd_cond, ↓cd_block, load_p1 T23 a23, loadc_def, load_p1 T40 a40, fa_ptr T53 p53_2 (by decide), load_p1 T3 a3, fa_ptr T43 p43_1 (by decide), fa_ptr T43 p43_3 (by decide), fa_ptr T53 p53_0 (by decide), g1, bx1, c0, c1, eq_true c2]
      rw [code_soft (ss := [(12, 0, 19), (14, 0, 19), (16, 0, 19), (18, 0, 19)]) (by kernel_rfl) (by kernel_rfl) (by simp)]
      simp +contextual (maxSteps := 3000000) only [run_none, ↓run0_v, ↓run0_r, ↓seqK_normal, ↓seqK_ret, ↓blkK_ret, ↓retK_ret, put_same, put_ne, ev_tmp, ev_func, o_move, o_assign, o_bin, o_call, o_load, o_fieldAddr, g_none, bin_eql, resultsOf, oneOrAll, Option.map_some, Nat.reduceEqDiff, not_false_eq_true, Nat.reduceAdd, List.getElem?_cons_zero, List.getElem?_cons_succ, List.map_cons, List.map_nil, List.append_nil, List.nil_append, List.cons_append, ne_eq, ↓cd_ret, loadc_def, fa_ptr T53 p53_2 (by decide), load_p1 T3 a3, fa_ptr T53 p53_3 (by decide), fa_ptr T53 p53_4 (by decide), load_p1 T48 a48, fa_ptr T53 p53_5 (by decide), load_p1 T4 a4, opsTr_nil, opsTr_cons, g1, k1, g2, l1, decide_true, callV_fn (g := 21) (by decide), callV_fn (g := 48) (by decide)]
      refine soft_Q (DoP n b mb p s r t V S) ?_ ?_
      rotate_left
      · simp +contextual (maxSteps := 3000000) only [run_none, ↓run0_v, put_same, ev_tmp, o_load, g_none, Nat.reduceAdd, List.getElem?_cons_zero, List.getElem?_cons_succ, List.getElem?_toArray, loadc_def, load_p1 T3 a3, load_p1 T48 a48, load_p1 T4 a4, softOk, sameAt, stepV, same_int, same_bool, Bool.and_true, g1, g2, same_lst (sameB a.da)]
      exact ⟨_, _, _, _, _, _, _, _, _, _, rfl, W4, hP.stepS (Nat.le_succ n) e2 e3 (sendFix _ _ _ _ _).1 (sendFix _ _ _ _ _).2.1 (sendFix _ _ _ _ _).2.2 (sendFixT _ _ _ _ _).1 (sendFixT _ _ _ _ _).2, id, BB.send _ _ _ _⟩
    by_cases c4 : a.dd = 4
    · obtain ⟨e1, e2⟩ := hP.Forward
      obtain ⟨h2, oV2, k1, k2, k3, k4, k5, k6⟩ := V18 h32 h25 h58 h37 h57 h38 h33 h39 h43 h42 h18 h59 h60 (m + 79) s p S V oS oV h1 W1.fs W1.fv W1.pvs qS (by have := hP.sr; omega) hP.ia.q hP.ib.lf ⟨by have := hP.ib.jl; omega, by have := hP.ia.jl; omega⟩ hP.ib.jd (fun x hx => by have := hP.ia.sb x hx; exact ⟨this.1.1, this.1.2, this.2.2.1⟩) (fun w hw => (hP.ia.wb w hw).2.2) (fun x hx => (hP.ia.sb x hx).2.2.2.2) (fun x hx hc hj j hjj => fwPre (hP.sv x hx hc) hjj)
      have W2 := W1.opF k3 k2 k4 ⟨k5, fun c hc h1' h2' => ⟨(k6 c hc h1' h2').1, (k6 c hc h1' h2').2, h2'⟩⟩
      have gB := k6 h.next (by omega) oB.1 oB.2.1
      have g2 := gB.1.trans g1
      have bx2 := W2.bx
      obtain ⟨h4, oU2, oQ2, l1, l2, l3, l4, l5, l6⟩ := L49 h63 h62 h64 h65 h49 (m + 179) t r U Q oU oQ h2 W2.fu W2.fq W2.pqu hrt (by rw [hP.b.r]; have := hP.sr; omega) fV7 ⟨fU1, fV1⟩ ⟨by have := fV5.1; omega, by have := fV5.2; omega⟩ fV9 fVa fV2 fUb (fwSq hP) (fwAp hP)
      have W4 := W2.opG l3 l2 l4 ⟨l5, fun c hc h1' h2' => ⟨(l6 c hc h1' h2').1, (l6 c hc h1' h2').2.1, (l6 c hc h1' h2').2.2⟩⟩
      rw [e1] at l1
      rw [call_code (by decide) h26 F26 rfl]; simp only [Tryd.f26, Option.getD]
      simp +contextual (maxSteps := 3000000) only [↓ops_nil, ↓ops_cons, run_none, ↓run0_v, ↓run0_r, ↓seqK_normal, env0_at, ev_tmp, ev_const, oc_bool, o_assign, o_box, g_none, Option.getD_some, List.getElem?_cons_zero, List.getElem?_cons_succ, ↓cd_seq, ↓cd_region, box_agg, ← hh1]
      rw [code_dr (by kernel_rfl) (by kernel_rfl)]
      simp +contextual (maxSteps := 3000000) only [aCond_bool, ↓ops_nil, ↓ops_cons, run_none, ↓run0_v, ↓seqK_normal, put_same, put_ne, env0_at, ev_tmp, ev_const, oc_int, o_move, o_assign, o_bin, o_load, o_nilCheck, o_fieldAddr, g_none, bin_neq, nil_ptr, Option.getD_some, ↓reduceIte, Nat.reduceEqDiff, not_false_eq_true, Nat.reduceAdd, reduceCtorEq, List.getElem?_cons_zero, List.getElem?_cons_succ, Bool.not_eq_eq_eq_not, Bool.not_true, ne_eq, decide_eq_false_iff_not, ↓cd_seq, ↓cd_region, ↓cd_cond, fa_ptr T43 p43_0 (by decide), load_p1 T23 a23, loadc_def, fa_ptr T43 p43_2 (by decide), load_p1 T40 a40, fa_ptr T53 p53_2 (by decide), load_p1 T3 a3, fa_ptr T53 p53_1 (by decide), g1, bx1, con]
      rw [code_dr (by kernel_rfl) (by kernel_rfl)]
      simp +contextual (maxSteps := 3000000) only [aCond_bool, ↓ops_nil, ↓ops_cons, run_none, ↓run0_v, ↓seqK_normal, put_same, put_ne, env0_at, ev_tmp, ev_const, oc_int, o_move, o_assign, o_bin, o_load, o_nilCheck, o_fieldAddr, g_none, bin_add, bin_eql, nil_ptr, Option.getD_some, decide_eq_true_eq, ↓reduceIte, Nat.reduceEqDiff, not_false_eq_true, Nat.reduceAdd, reduceCtorEq, List.getElem?_cons_zero, List.getElem?_cons_succ, ne_eq, ↓cd_seq, ↓cd_region, ↓cd_cond, ↓cd_block, load_p1 T23 a23, loadc_def, load_p1 T40 a40, fa_ptr T53 p53_2 (by decide), load_p1 T3 a3, fa_ptr T43 p43_1 (by decide), fa_ptr T43 p43_3 (by decide), fa_ptr T53 p53_0 (by decide), g1, bx1, c0, c1, c2, eq_true c4]
      rw [code_soft (ss := [(12, 0, 17), (16, 0, 17)]) (by kernel_rfl) (by kernel_rfl) (by simp)]
      simp +contextual (maxSteps := 3000000) only [run_none, ↓run0_v, ↓run0_r, ↓seqK_normal, ↓seqK_ret, ↓blkK_ret, ↓retK_ret, put_same, put_ne, env0_at, ev_tmp, ev_func, o_move, o_assign, o_bin, o_call, o_load, o_nilCheck, o_fieldAddr, g_none, bin_eql, nil_ptr, resultsOf, oneOrAll, Option.map_some, Option.getD_some, Nat.reduceEqDiff, not_false_eq_true, Nat.reduceAdd, reduceCtorEq, List.getElem?_cons_zero, List.getElem?_cons_succ, List.map_cons, List.map_nil, List.append_nil, List.nil_append, List.cons_append, ne_eq, ↓cd_ret, fa_ptr T43 p43_0 (by decide), load_p1 T23 a23, loadc_def, fa_ptr T43 p43_2 (by decide), load_p1 T40 a40, fa_ptr T43 p43_1 (by decide), fa_ptr T43 p43_3 (by decide), opsTr_nil, opsTr_cons, bx1, k1, bx2, l1, decide_true, callV_fn (g := 18) (by decide), callV_fn (g := 49) (by decide)]
      refine soft_Q (DoP n b mb p s r t V S) ?_ ?_
      rotate_left
      · simp +contextual (maxSteps := 3000000) only [run_none, ↓run0_v, put_same, ev_tmp, o_load, g_none, Nat.reduceAdd, List.getElem?_cons_zero, List.getElem?_cons_succ, List.getElem?_toArray, loadc_def, load_p1 T40 a40, softOk, sameAt, stepV, same_ptr, Bool.and_true, bx1, bx2]
      exact ⟨_, _, _, _, _, _, _, _, _, _, rfl, W4, e2, BB.fw _ _, id⟩
    by_cases c5 : a.dd = 5
    · obtain ⟨M, hM⟩ : ∃ M, M = sq (IntKind.i64.wrap (a.cl + 1000)) := ⟨_, rfl⟩
      have hlk := W1.mp.look m41 (IntKind.i64.wrap (a.cl + 1000))
      rw [← hM] at hlk
      obtain ⟨N, hN⟩ : ∃ N, N = IntKind.i64.wrap (M.tmod 255 + 1) := ⟨_, rfl⟩
      have u1 : IntKind.i64.wrap (M.tmod 255) = M.tmod 255 := by have h1 := tmod_b M; exact wrap_i64 (by omega) (by omega)
      have u3 : IntKind.i64.wrap (M.tmod 255 + 1) = N := hN.symm
      obtain ⟨e1, e2, e3⟩ := hP.b.Send hP.ib a.cl N a.da a.en
      obtain ⟨h2, oV2, k1, k2, k3⟩ := V21c h30 h32 h57 h38 h39 h43 h42 h21 h60 (m + 189) s a.cl N (.lst false 1 a.da.length (bytes a.da)) a.en S oS h1 a.da W1.fs qS (fun x hx => by have := hP.ib.sb x hx; exact ⟨this.1.1, this.1.2, this.2.2.1⟩) (pc_lst a.da) (by have := hP.ib.q; omega) (by have := hP.ib.jl; omega)
      have W2 := W1.opS k2 k3
      have gB := k3.2 h.next (by omega) oB.2.1
      have g2 := gB.1.trans g1
      have bx2 := W2.bx
      by_cases ce : (SendV S a.cl N a.da a.en).1 = 0
      · obtain ⟨h3, x1, x2, x3, x4⟩ := W2.mp.upd m41 (IntKind.i64.wrap (a.cl + 1000)) N
        have W3 := W2.map x2 x3 x4
        have g3 := (x4 h.next hBn).trans g2
        obtain ⟨h4, oQ2, l1, l2, l3⟩ := L48 h63 h64 h65 h48 (m + 198) t a.cl N (.lst false 1 a.da.length (bytes a.da)) a.en U oU h3 a.da W3.fu (pc_lst a.da) fU2 hda fU1 ⟨by have := fU5.1; omega, by have := fU5.2; omega⟩
        have W4 := W3.opU l2 l3
        rw [e1] at l1
        rw [call_code (by decide) h26 F26 rfl]; simp only [Tryd.f26, Option.getD]
        simp +contextual (maxSteps := 3000000) only [↓ops_nil, ↓ops_cons, run_none, ↓run0_v, ↓run0_r, ↓seqK_normal, env0_at, ev_tmp, ev_const, oc_bool, o_assign, o_box, g_none, Option.getD_some, List.getElem?_cons_zero, List.getElem?_cons_succ, ↓cd_seq, ↓cd_region, box_agg, ← hh1]
        rw [code_dr (by kernel_rfl) (by kernel_rfl)]
        simp +contextual (maxSteps := 3000000) only [aCond_bool, ↓ops_nil, ↓ops_cons, run_none, ↓run0_v, ↓seqK_normal, put_same, put_ne, env0_at, ev_tmp, ev_const, oc_int, o_move, o_assign, o_bin, o_load, o_nilCheck, o_fieldAddr, g_none, bin_neq, nil_ptr, Option.getD_some, ↓reduceIte, Nat.reduceEqDiff, not_false_eq_true, Nat.reduceAdd, reduceCtorEq, List.getElem?_cons_zero, List.getElem?_cons_succ, Bool.not_eq_eq_eq_not, Bool.not_true, ne_eq, decide_eq_false_iff_not, ↓cd_seq, ↓cd_region, ↓cd_cond, fa_ptr T43 p43_0 (by decide), load_p1 T23 a23, loadc_def, fa_ptr T43 p43_2 (by decide), load_p1 T40 a40, fa_ptr T53 p53_2 (by decide), load_p1 T3 a3, fa_ptr T53 p53_1 (by decide), g1, bx1, con]
        rw [code_dr (by kernel_rfl) (by kernel_rfl)]
        simp +contextual (maxSteps := 3000000) only [aCond_bool, ↓ops_nil, ↓ops_cons, run_none, ↓run0_v, ↓run0_h, ↓run0_r, ↓seqK_normal, ↓seqK_ret, ↓blkK_ret, ↓retK_ret, put_same, put_ne, put_none, env0_at, ev_tmp, ev_const, ev_func, oc_int, o_move, o_assign, o_bin, o_call, o_load, o_nilCheck, o_fieldAddr, g_none, bin_add, bin_rem, bin_eql, nil_ptr, resultsOf, oneOrAll, Option.map_some, Option.getD_some, decide_eq_true_eq, ↓reduceIte, Nat.reduceEqDiff, not_false_eq_true, Nat.reduceAdd, reduceCtorEq, List.getElem?_cons_zero, List.getElem?_cons_succ, List.map_cons, List.map_nil, List.append_nil, List.nil_append, ne_eq, ↓cd_seq, ↓cd_region, ↓cd_cond, ↓cd_block, ↓cd_ret, load_p1 T23 a23, loadc_def, load_p1 T40 a40, fa_ptr T53 p53_2 (by decide), load_p1 T3 a3, fa_ptr T43 p43_1 (by decide), fa_ptr T43 p43_3 (by decide), fa_ptr T53 p53_0 (by decide), fa_ptr T43 p43_4 (by decide), load_p1 T41 a41, o_mapUpdate, fa_ptr T53 p53_4 (by decide), load_p1 T48 a48, fa_ptr T53 p53_5 (by decide), load_p1 T4 a4, o_lookup, g1, bx1, c0, c1, c2, c4, eq_true c5, hlk, u3, (show ¬ (255 : Int) = 0 by decide), k1, bx2, eq_true ce, x1, g3, l1, decide_true, callV_fn (g := 21) (by decide), callV_fn (g := 48) (by decide)]
        exact ⟨_, _, _, _, _, _, _, _, _, _, rfl, W4, hP.stepS (Nat.le_succ n) e2 e3 (sendFix _ _ _ _ _).1 (sendFix _ _ _ _ _).2.1 (sendFix _ _ _ _ _).2.2 (sendFixT _ _ _ _ _).1 (sendFixT _ _ _ _ _).2, id, BB.send _ _ _ _⟩
      · have W3 := W2
        have g3 := g2
        obtain ⟨h4, oQ2, l1, l2, l3⟩ := L48 h63 h64 h65 h48 (m + 198) t a.cl N (.lst false 1 a.da.length (bytes a.da)) a.en U oU h2 a.da W3.fu (pc_lst a.da) fU2 hda fU1 ⟨by have := fU5.1; omega, by have := fU5.2; omega⟩
        have W4 := W3.opU l2 l3
        rw [e1] at l1
        rw [call_code (by decide) h26 F26 rfl]; simp only [Tryd.f26, Option.getD]
        simp +contextual (maxSteps := 3000000) only [↓ops_nil, ↓ops_cons, run_none, ↓run0_v, ↓run0_r, ↓seqK_normal, env0_at, ev_tmp, ev_const, oc_bool, o_assign, o_box, g_none, Option.getD_some, List.getElem?_cons_zero, List.getElem?_cons_succ, ↓cd_seq, ↓cd_region, box_agg, ← hh1]
        rw [code_dr (by kernel_rfl) (by kernel_rfl)]
        simp +contextual (maxSteps := 3000000) only [aCond_bool, ↓ops_nil, ↓ops_cons, run_none, ↓run0_v, ↓seqK_normal, put_same, put_ne, env0_at, ev_tmp, ev_const, oc_int, o_move, o_assign, o_bin, o_load, o_nilCheck, o_fieldAddr, g_none, bin_neq, nil_ptr, Option.getD_some, ↓reduceIte, Nat.reduceEqDiff, not_false_eq_true, Nat.reduceAdd, reduceCtorEq, List.getElem?_cons_zero, List.getElem?_cons_succ, Bool.not_eq_eq_eq_not, Bool.not_true, ne_eq, decide_eq_false_iff_not, ↓cd_seq, ↓cd_region, ↓cd_cond, fa_ptr T43 p43_0 (by decide), load_p1 T23 a23, loadc_def, fa_ptr T43 p43_2 (by decide), load_p1 T40 a40, fa_ptr T53 p53_2 (by decide), load_p1 T3 a3, fa_ptr T53 p53_1 (by decide), g1, bx1, con]
        rw [code_dr (by kernel_rfl) (by kernel_rfl)]
        simp +contextual (maxSteps := 3000000) only [aCond_bool, ↓ops_nil, ↓ops_cons, run_none, ↓run0_v, ↓run0_r, ↓seqK_normal, ↓seqK_ret, ↓blkK_ret, ↓retK_ret, put_same, put_ne, env0_at, ev_tmp, ev_const, ev_func, oc_int, o_move, o_assign, o_bin, o_call, o_load, o_nilCheck, o_fieldAddr, g_none, bin_add, bin_rem, bin_eql, nil_ptr, resultsOf, oneOrAll, Option.map_some, Option.getD_some, decide_eq_true_eq, ↓reduceIte, Nat.reduceEqDiff, not_false_eq_true, Nat.reduceAdd, reduceCtorEq, List.getElem?_cons_zero, List.getElem?_cons_succ, List.map_cons, List.map_nil, List.append_nil, List.nil_append, ne_eq, ↓cd_skip, ↓cd_seq, ↓cd_region, ↓cd_cond, ↓cd_block, ↓cd_ret, load_p1 T23 a23, loadc_def, load_p1 T40 a40, fa_ptr T53 p53_2 (by decide), load_p1 T3 a3, fa_ptr T43 p43_1 (by decide), fa_ptr T43 p43_3 (by decide), fa_ptr T53 p53_0 (by decide), fa_ptr T43 p43_4 (by decide), load_p1 T41 a41, fa_ptr T53 p53_4 (by decide), load_p1 T48 a48, fa_ptr T53 p53_5 (by decide), load_p1 T4 a4, o_lookup, g1, bx1, c0, c1, c2, c4, eq_true c5, hlk, u3, (show ¬ (255 : Int) = 0 by decide), k1, g2, ce, l1, decide_true, callV_fn (g := 21) (by decide), callV_fn (g := 48) (by decide)]
        exact ⟨_, _, _, _, _, _, _, _, _, _, rfl, W4, hP.stepS (Nat.le_succ n) e2 e3 (sendFix _ _ _ _ _).1 (sendFix _ _ _ _ _).2.1 (sendFix _ _ _ _ _).2.2 (sendFixT _ _ _ _ _).1 (sendFixT _ _ _ _ _).2, id, BB.send _ _ _ _⟩
    obtain ⟨e2, e3⟩ := hP.b.Tick hP.ib
    obtain ⟨h2, oV2, k1, k2, k3⟩ := V13 h32 h57 h34 h35 h36 h13 h35 (m + 99) s S oS h1 W1.fs qS hP.ib.r (fun w hw => by have := (hP.ib.wb w hw).1; omega) (fun x hx => by have := (hP.ib.sb x hx).2.1; omega)
    have W2 := W1.opS k2 k3
    obtain ⟨h4, oQ2, l1, l2, l3⟩ := L50 h64 h50 (m + 99) t U oU h2 W2.fu fU1 fU6 (fun w hw => by have := fU3 w hw; omega) (fun x hx => by have := fU4 x hx; omega)
    have W4 := W2.opU l2 l3
    rw [call_code (by decide) h26 F26 rfl]; simp only [Tryd.f26, Option.getD]
    simp +contextual (maxSteps := 3000000) only [↓ops_nil, ↓ops_cons, run_none, ↓run0_v, ↓run0_r, ↓seqK_normal, env0_at, ev_tmp, ev_const, oc_bool, o_assign, o_box, g_none, Option.getD_some, List.getElem?_cons_zero, List.getElem?_cons_succ, ↓cd_seq, ↓cd_region, box_agg, ← hh1]
    rw [code_dr (by kernel_rfl) (by kernel_rfl)]
    simp +contextual (maxSteps := 3000000) only [aCond_bool, ↓ops_nil, ↓ops_cons, run_none, ↓run0_v, ↓seqK_normal, put_same, put_ne, env0_at, ev_tmp, ev_const, oc_int, o_move, o_assign, o_bin, o_load, o_nilCheck, o_fieldAddr, g_none, bin_neq, nil_ptr, Option.getD_some, ↓reduceIte, Nat.reduceEqDiff, not_false_eq_true, Nat.reduceAdd, reduceCtorEq, List.getElem?_cons_zero, List.getElem?_cons_succ, Bool.not_eq_eq_eq_not, Bool.not_true, ne_eq, decide_eq_false_iff_not, ↓cd_seq, ↓cd_region, ↓cd_cond, fa_ptr T43 p43_0 (by decide), load_p1 T23 a23, loadc_def, fa_ptr T43 p43_2 (by decide), load_p1 T40 a40, fa_ptr T53 p53_2 (by decide), load_p1 T3 a3, fa_ptr T53 p53_1 (by decide), g1, bx1, con]
    rw [code_dr (by kernel_rfl) (by kernel_rfl)]
    simp +contextual (maxSteps := 3000000) only [aCond_bool, ↓ops_nil, ↓ops_cons, run_none, ↓run0_v, ↓run0_r, ↓seqK_normal, ↓blkK_normal, ↓retK_ret, put_same, put_ne, env0_at, ev_tmp, ev_const, ev_func, oc_int, o_move, o_assign, o_bin, o_call, o_load, o_nilCheck, o_fieldAddr, g_none, bin_add, bin_eql, nil_ptr, resultsOf, oneOrAll, Option.map_some, Option.getD_some, decide_eq_true_eq, ↓reduceIte, Nat.reduceEqDiff, not_false_eq_true, Nat.reduceAdd, reduceCtorEq, List.getElem?_cons_zero, List.getElem?_cons_succ, List.map_cons, List.map_nil, List.append_nil, List.nil_append, ne_eq, ↓cd_skip, ↓cd_seq, ↓cd_region, ↓cd_cond, ↓cd_block, ↓cd_ret, load_p1 T23 a23, loadc_def, load_p1 T40 a40, fa_ptr T53 p53_2 (by decide), load_p1 T3 a3, fa_ptr T43 p43_1 (by decide), fa_ptr T43 p43_3 (by decide), fa_ptr T53 p53_0 (by decide), g1, bx1, c0, c1, c2, c4, c5, k1, l1, decide_true, callV_fn (g := 13) (by decide), callV_fn (g := 50) (by decide)]
    first
    | rw [code_dr (by kernel_rfl) (by kernel_rfl)]
      simp +contextual (maxSteps := 3000000) only [↓code_skip, ↓code_seq, ↓code_region, ↓code_cond, ↓code_block, ↓code_scope, ↓code_label, ↓code_loop, ↓code_exit, ↓code_ret, aCond_bool, ↓ops_nil, ↓ops_cons, run_none, run_someT, run_someF, run_tup, ↓run0_v, ↓run0_h, ↓run0_r, ↓seqK_normal, ↓seqK_exit, ↓seqK_ret, ↓blkK_normal, ↓blkK_ret, ↓blkK_exit, ↓retK_normal, ↓retK_ret, put_same, put_ne, put_none, env0_at, ev_tmp, ev_const, ev_func, oc_int, oc_bool, oc_str, oc_nils, oc_nilp, oc_nilf, oc_nilm, o_move, o_assign, o_pick, o_bin, o_call, o_len, o_alloc, o_box, o_build, o_buildSlice, o_load, o_store, o_nilCheck, o_un, o_convert, o_makeFunc, o_makeSlice, o_slice, o_fieldAddr, o_field, o_indexAddr, o_index, o_extract, o_append, o_min, o_max, g_none, g_some, pick_bool, bin_add, bin_sub, bin_mul, bin_quo, bin_rem, bin_eql, bin_neq, bin_or, bin_and, bin_lss, bin_leq, bin_gtr, bin_geq, bin_shr, bin_shl, str_add, str_eql, str_neq, un_not, extract_tup, nil_ptr, nil_fp, part_1, part_A, next_e0, next_one, get_e0, resultsOf, oneOrAll, Option.bind_some, Option.map_some, Option.map_none, Option.getD_some, decide_eq_true_eq, ↓reduceIte, Nat.reduceEqDiff, not_false_eq_true, not_true_eq_false, Nat.reduceAdd, Nat.reduceMul, reduceCtorEq, if_true, if_false, Nat.succ_ne_self, List.getElem?_cons_zero, List.getElem?_cons_succ, List.getElem?_toArray, Bool.false_eq_true, Bool.true_eq_false, List.map_cons, List.map_nil, List.append_nil, List.nil_append, List.cons_append, AH.get_alloc, AH.get_put, AH.next_alloc, AH.next_put, ite_self, true_and, and_true, Nat.reduceLeDiff, Nat.le_refl, gt_iff_lt, ge_iff_le, Bool.not_eq_true', Bool.not_eq_eq_eq_not, Bool.not_true, Bool.not_false, Bool.not_eq_false', Bool.not_not, beq_iff_eq, bne_iff_ne, ne_eq, decide_eq_false_iff_not, ↓cd_skip, ↓cd_seq, ↓cd_region, ↓cd_cond, ↓cd_block, ↓cd_exit, ↓cd_ret, box_str, box_int, box_bool, box_agg, box_lst, box_nils, box_sl, box_ptr, box_fn, fa_ptr T43 p43_0 (by decide), fa_fp T43 p43_0 (by decide), load_fp1 T23 a23, load_p1 T23 a23, loadc_def, fa_ptr T43 p43_2 (by decide), fa_fp T43 p43_2 (by decide), load_fp1 T40 a40, load_p1 T40 a40, fa_ptr T53 p53_2 (by decide), fa_fp T53 p53_2 (by decide), load_fp1 T3 a3, load_p1 T3 a3, fa_ptr T53 p53_1 (by decide), fa_fp T53 p53_1 (by decide), fa_ptr T43 p43_1 (by decide), fa_fp T43 p43_1 (by decide), fa_ptr T43 p43_3 (by decide), fa_fp T43 p43_3 (by decide), fa_ptr T53 p53_0 (by decide), fa_fp T53 p53_0 (by decide), fa_ptr T53 p53_3 (by decide), fa_fp T53 p53_3 (by decide), fa_ptr T43 p43_4 (by decide), fa_fp T43 p43_4 (by decide), load_fp1 T41 a41, load_p1 T41 a41, o_mapUpdate, fa_ptr T53 p53_4 (by decide), fa_fp T53 p53_4 (by decide), load_fp1 T48 a48, load_p1 T48 a48, fa_ptr T53 p53_5 (by decide), fa_fp T53 p53_5 (by decide), load_fp1 T4 a4, load_p1 T4 a4, o_lookup, callV_fn (g := 12) (by decide), callV_fn (g := 13) (by decide), callV_fn (g := 15) (by decide), callV_fn (g := 18) (by decide), callV_fn (g := 21) (by decide), callV_fn (g := 46) (by decide), callV_fn (g := 47) (by decide), callV_fn (g := 48) (by decide), callV_fn (g := 49) (by decide), callV_fn (g := 50) (by decide), g1, bx1, k1, l1, decide_true, callV_fn (g := 13) (by decide), callV_fn (g := 50) (by decide)]
    | skip
    exact ⟨_, _, _, _, _, _, _, _, _, _, rfl, W4, hP.stepS (Nat.le_succ n) e2 e3 rfl rfl ⟨[], (List.append_nil _).symm⟩ rfl rfl, id, BB.tick⟩
end Go.AM.X
