/- A function that is known by its contract: a row of structs of six whole numbers is sorted by their first ones. Own work. -/
import Derived.Test.YtekoffjfbjonmaaAmRow
import Derived.Shelf.SlSortCmp.WholeK
import Derived.Shelf.SlSortCmp.NoneTotal
namespace Go.AM
open Go Go.RowKit Go.Sort Go.Proofs Go.Lib
set_option linter.unusedVariables false
set_option linter.unusedSimpArgs false

/-- Six whole numbers. -/
structure E6 where
  lo : Int
  hi : Int
  di : Int
  po : Int
  nx : Int
  st : Int
  deriving DecidableEq
instance : Inhabited E6 := ⟨⟨0, 0, 0, 0, 0, 0⟩⟩
def E6.ints (x : E6) : List Int := [x.lo, x.hi, x.di, x.po, x.nx, x.st]
def E6.enc (x : E6) : List Value := x.ints.map (.int .i64)
def E6.av (x : E6) : List AV := x.ints.map (.int .i64)
theorem E6.enc_len (x : E6) : x.enc.length = 6 := rfl
theorem E6.av_len (x : E6) : x.av.length = 6 := rfl
def dec6 : List AV → Option (List E6)
  | [] => some []
  | .int .i64 a :: .int .i64 b :: .int .i64 c :: .int .i64 d :: .int .i64 e :: .int .i64 f :: rest => (dec6 rest).map (⟨a, b, c, d, e, f⟩ :: ·)
  | _ => none
theorem dec6_enc : ∀ l : List E6, dec6 (l.flatMap E6.av) = some l
  | [] => rfl
  | x :: l => by
    rw [List.flatMap_cons]
    show dec6 (.int .i64 x.lo :: .int .i64 x.hi :: .int .i64 x.di :: .int .i64 x.po :: .int .i64 x.nx :: .int .i64 x.st :: l.flatMap E6.av) = _
    rw [dec6, dec6_enc l]; rfl
theorem dec6_inv : ∀ (n : Nat) (cs : List AV) (l : List E6), cs.length ≤ n → dec6 cs = some l → cs = l.flatMap E6.av
  | 0, cs, l, hn, h => by
    obtain rfl : cs = [] := List.length_eq_zero_iff.1 (by omega)
    cases h; rfl
  | n + 1, cs, l, hn, h => by
    unfold dec6 at h
    split at h
    · cases h; rfl
    · rename_i a b c d e f rest
      simp only [Option.map_eq_some_iff] at h
      obtain ⟨l', h', rfl⟩ := h
      simp at hn
      rw [List.flatMap_cons, ← dec6_inv n rest l' (by omega) h']
      rfl
    · cases h
theorem flat_len {β : Type} (f : E6 → List β) (hf : ∀ x, (f x).length = 6) : ∀ l : List E6, (l.flatMap f).length = l.length * 6
  | [] => rfl
  | x :: l => by rw [List.flatMap_cons, List.length_append, hf, flat_len f hf l]; simp; omega
theorem flat_get (l : List E6) : ∀ t, t < l.length * 6 → ∃ x i : Nat, ∃ n : Int, (l.flatMap E6.av)[t]? = some (.int .i64 n) ∧ (l.flatMap E6.enc)[t]? = some (.int .i64 n) := by
  induction l with
  | nil => intro t ht; simp at ht
  | cons x l ih =>
    intro t ht
    rw [List.flatMap_cons, List.flatMap_cons]
    by_cases h : t < 6
    · rw [List.getElem?_append_left (by rw [E6.av_len]; exact h), List.getElem?_append_left (by rw [E6.enc_len]; exact h)]
      have hl : t < x.ints.length := h
      exact ⟨0, 0, x.ints[t], by simp [E6.av, hl], by simp [E6.enc, hl]⟩
    · rw [List.getElem?_append_right (by rw [E6.av_len]; omega), List.getElem?_append_right (by rw [E6.enc_len]; omega), E6.av_len, E6.enc_len]
      simp at ht
      exact ih (t - 6) (by omega)
theorem flatK_eq (l : List E6) : ∀ t, t < l.length * 6 → some (flatK E6.enc 6 l.toArray)[t]! = (l.flatMap E6.enc)[t]? := by
  intro t ht
  rw [get_flatK _ _ _ _ (by simpa using ht)]
  induction l generalizing t with
  | nil => simp at ht
  | cons x l ih =>
    rw [List.flatMap_cons]
    by_cases h : t < 6
    · rw [List.getElem?_append_left (by rw [E6.enc_len]; exact h)]
      have h0 : t / 6 = 0 := by omega
      have h1 : t % 6 = t := by omega
      rw [h0, h1]
      have hl : t < x.enc.length := by rw [E6.enc_len]; exact h
      simp [hl]
    · rw [List.getElem?_append_right (by rw [E6.enc_len]; omega), E6.enc_len]
      simp at ht
      have := ih (t - 6) (by omega)
      rw [← this]
      have h0 : t / 6 = (t - 6) / 6 + 1 := by omega
      have h1 : t % 6 = (t - 6) % 6 := by omega
      rw [h0, h1]
      have hl : (t - 6) / 6 < l.length := by omega
      simp [hl]
def cmpLo (x y : E6) : Int := Lib.compareInt x.lo y.lo
/-- What the library's sort makes of a list. -/
def sorted6 (l : List E6) : List E6 := (pdq (ltOf cmpLo) l.toArray 0 l.length (Lib.bitLen l.length) true true).toList
theorem ltLo (x y : E6) : ltOf cmpLo x y = decide (x.lo < y.lo) := by
  unfold ltOf cmpLo Lib.compareInt
  by_cases h1 : x.lo < y.lo
  · simp [h1]
  · by_cases h2 : y.lo < x.lo <;> simp [h1, h2]
theorem swoLo : SWO (ltOf cmpLo) where
  irrefl x := by rw [ltLo]; simp
  trans x y z h1 h2 := by rw [ltLo] at *; simp at *; omega
  ntrans x y z h1 h2 := by rw [ltLo] at *; simp at *; omega
theorem sorted6_spec (l : List E6) : (sorted6 l).Perm l ∧ (sorted6 l).Pairwise (fun a b => a.lo ≤ b.lo) := by
  have h := pdq_sorts (ltOf cmpLo) swoLo l.toArray 0 l.length (Lib.bitLen l.length) true true (Nat.zero_le _) (by simp) (Or.inl rfl)
  obtain ⟨⟨h1, h2, h3⟩, h4⟩ := h
  unfold sorted6
  obtain ⟨d, hd⟩ : ∃ d, d = pdq (ltOf cmpLo) l.toArray 0 l.length (Lib.bitLen l.length) true true := ⟨_, rfl⟩
  rw [← hd] at h1 h2 h3 h4 ⊢
  have hs : d.size = l.length := by simpa using h1
  constructor
  · have e1 : d.extract 0 l.length = d := by rw [← hs]; simp
    have e2 : l.toArray.extract 0 l.length = l.toArray := by simp
    rw [e1, e2] at h3
    simpa using h3
  · rw [List.pairwise_iff_getElem]
    intro i j hi hj hij
    have hj' : j < d.size := by simpa using hj
    have := h4 i j (Nat.zero_le _) hij (by omega)
    rw [ltLo, getElem!_pos d j hj', getElem!_pos d i (by omega)] at this
    simp at this
    simpa using this
theorem sorted6_len (l : List E6) : (sorted6 l).length = l.length := (sorted6_spec l).1.length_eq

def srtG (g : Nat) (args : List AV) (h : AH) : Rs :=
  match args with
  | [.nils, .fn g' [] []] => match Nat.beq g' g with
    | true => some (.tup [], h)
    | false => none
  | [.sl b o n cap sz _, .fn g' [] []] => match Nat.beq g' g with
    | true => if n = 0 then some (.tup [], h) else if o = 0 ∧ sz = 6 ∧ n < 4611686018427387904 then match h.get b with
      | some (.cells cs .own) => if n * 6 ≤ cs.length then match dec6 (cs.take (n * 6)) with
        | some l => some (.tup [], h.put b (.cells ((sorted6 l).flatMap E6.av ++ cs.drop (n * 6)) .own))
        | none => none
        else none
      | _ => none
      else none
    | false => none
  | _ => none

theorem srt_agree {P : Program} {F : Nat → Option FI} (hF : FAgree P F) {I : Nat → Option (List AV → AH → Rs)} (hI : IAgree P I) {f g : Nat} (fi : FI) (hFf : F f = some fi)
    (hc0 : ∀ (p : Option Addr) (cap : Nat) (fv : Value) (w : World), Calls P f #[.slice p 0 cap, fv] w fun e w' => e = .returned (.tuple #[]) ∧ w' = w)
    (hc : ∀ (blk off cap : Nat) (d : Array E6) (w : World), HoldsK E6.enc 6 w blk off d → blk < w.heap.size → d.size < 4611686018427387904 →
      Calls P f #[.slice (some ⟨blk, off, none⟩) d.size cap, .func (.func g) #[] #[]] w fun e w' => e = .returned (.tuple #[]) ∧ ∃ n os, w' = sortWorldK E6.enc 6 w blk off n (pdq (ltOf cmpLo) d 0 d.size (Lib.bitLen d.size) true true) os) : IAgree P (addI I f (srtG g)) := by
  refine addI_agree hI ?_ ?_
  · obtain ⟨fn, hfn, hbody, _, _, hname, _⟩ := hF.fn f fi hFf
    have hname' : ¬ fn.name = "runtime.NumGoroutine" := by simpa using hname
    exact fun us w => by simp [callFunc, hfn, hname', hbody]
  · intro args h v h' hgv B μ vs w hvs hr
    unfold srtG at hgv
    split at hgv
    · rename_i g'
      split at hgv
      · cases hgv
        obtain ⟨x, r1, rfl, h1, h2⟩ := hvs.cons_inv
        obtain ⟨y, r2, rfl, h3, h4⟩ := h2.cons_inv
        rw [h4.nil_inv, h1.nils_inv]
        refine (hc0 none 0 y w).mono ?_
        rintro e w' ⟨rfl, rfl⟩
        exact ⟨_, rfl, .same (VR.mk_tup VRL.nil) hr⟩
      · cases hgv
    · rename_i b o n cap sz ex g'
      split at hgv
      case h_2 => cases hgv
      rename_i hg
      have hg' := Nat.eq_of_beq_eq_true hg
      subst hg'
      obtain ⟨x, r1, rfl, h1, h2⟩ := hvs.cons_inv
      obtain ⟨y, r2, rfl, h3, h4⟩ := h2.cons_inv
      obtain ⟨cb, δ, N, a, c, hm, rfl, hor, hnc, hcc, _⟩ := h1.sl_inv
      obtain ⟨fs, cps, rfl, hfs, hcps⟩ := h3.fn_inv
      have hfs0 : fs = #[] := by have := hfs.nil_inv; exact Array.ext' (by simpa using this)
      have hcs0 : cps = #[] := by have := hcps.nil_inv; exact Array.ext' (by simpa using this)
      subst hfs0; subst hcs0
      rw [h4.nil_inv]
      split at hgv
      · rename_i hn0
        subst hn0
        cases hgv
        refine (hc0 (some a) c _ w).mono ?_
        rintro e w' ⟨rfl, rfl⟩
        exact ⟨_, rfl, .same (VR.mk_tup VRL.nil) hr⟩
      rename_i hn0
      split at hgv
      case isFalse => cases hgv
      rename_i hcond
      obtain ⟨rfl, rfl, hnb⟩ := hcond
      split at hgv
      case h_2 => cases hgv
      rename_i cs hb
      split at hgv
      case isFalse => cases hgv
      rename_i hlen
      split at hgv
      case h_2 => cases hgv
      rename_i l hdec
      cases hgv
      obtain ⟨_, cb', δ', N', arr, el, fz, g1, g2, hcr, _, hk⟩ := hr.blk b _ hb
      rw [hm] at g1; cases g1
      obtain ⟨hnB, harr, hfz, hown⟩ := hk (by decide)
      have hfz0 := hown rfl
      subst hfz0
      have hcs : cs.take (n * 6) = l.flatMap E6.av := dec6_inv _ _ _ (Nat.le_refl _) hdec
      have hln : l.length = n := by
        have := congrArg List.length hcs
        rw [flat_len _ E6.av_len, List.length_take] at this
        omega
      have ha : a = ⟨cb, δ, none⟩ := by rcases hor with h0 | h0; · omega
                                        · exact h0.1
      subst ha
      have hlt : cb < w.heap.size := (Array.getElem?_eq_some_iff.1 g2).1
      have hlenr := hcr.len
      have hH : HoldsK E6.enc 6 w cb δ l.toArray := by
        intro j hj
        have hj' : j < l.length * 6 := by simpa using hj
        obtain ⟨_, _, k, e1, e2⟩ := flat_get l j hj'
        have e3 : cs[j]? = some (.int .i64 k) := by
          rw [← e1, ← hcs, List.getElem?_take, if_pos (by omega)]
        obtain ⟨u, hu, hv⟩ := hcr.rel j _ e3
        rw [hv.int_inv] at hu
        have e4 := flatK_eq l j hj'
        rw [e2] at e4
        refine ⟨?_, ?_⟩
        · simp only [World.cell?, g2]
          simp only [Option.isSome_none, Bool.false_eq_true, if_false]
          rw [hu]
          exact e4.symm
        · simp only [World.frozen?, g2]
          simp
      have hcall := hc cb δ c l.toArray w hH hlt (by simpa [hln] using hnb)
      rw [show l.toArray.size = n by simpa using hln] at hcall
      refine hcall.mono ?_
      rintro e w' ⟨rfl, m, os, rfl⟩
      obtain ⟨d', hd'⟩ : ∃ d', d' = pdq (ltOf cmpLo) l.toArray 0 n (Lib.bitLen n) true true := ⟨_, rfl⟩
      have hsd : sorted6 l = d'.toList := by unfold sorted6; rw [hd', hln]
      rw [← hd', hsd]
      have hdl : d'.toList.length = n := by rw [← hsd, sorted6_len, hln]
      have hda : d' = d'.toList.toArray := by simp
      obtain ⟨dl, hdl'⟩ : ∃ dl, dl = d'.toList := ⟨_, rfl⟩
      rw [← hdl'] at hdl ⊢
      have hdd : d' = dl.toArray := by rw [hdl']
      obtain ⟨A', hA'⟩ : ∃ A', A' = putCells id δ (flatK E6.enc 6 d') arr := ⟨_, rfl⟩
      have hsz' : A'.size = arr.size := by rw [hA']; simp [putCells]
      have hF : (flatK E6.enc 6 d').size = n * 6 := by rw [size_flatK, hdd]; simp [hdl]
      have hAin : ∀ j, j < n * 6 → A'[δ + j]? = (dl.flatMap E6.enc)[j]? := by
        intro j hj
        have hlt2 : δ + j < arr.size := by omega
        rw [← flatK_eq dl j (by rw [hdl]; exact hj), hA', ← hdd]
        simp only [putCells, Array.getElem?_mapIdx, Array.getElem?_eq_getElem hlt2, Option.map_some, hF]
        rw [if_pos ⟨by omega, by omega⟩, Nat.add_sub_cancel_left]
        rfl
      have hAout : ∀ j, n * 6 ≤ j → A'[δ + j]? = arr[δ + j]? := by
        intro j hj
        rw [hA']
        simp only [putCells, Array.getElem?_mapIdx, hF]
        cases hx : arr[δ + j]? with
        | none => rfl
        | some u => simp only [Option.map_some]; rw [if_neg (by omega)]
      obtain ⟨w1, hw1⟩ : ∃ w1 : World, w1 = { w with heap := w.heap.setIfInBounds cb (.cells A' el (0, 0)) } := ⟨_, rfl⟩
      have hr1 : HR B μ (h.put b (.cells (dl.flatMap E6.av ++ cs.drop (n * 6)) .own)) w1.heap := by
        rw [hw1]
        refine hr.write hb rfl hm hnB ⟨cb, δ, N, A', el, (0, 0), hm, by simp [hlt], ⟨?_, ?_⟩, (fun h => by cases h), (fun _ => ⟨hnB, by rw [hsz', harr], (fun off ho => by simp), fun _ => rfl⟩)⟩
        · rw [hsz', List.length_append, flat_len _ E6.av_len, List.length_drop, hdl]; omega
        · intro j u hj
          by_cases hjn : j < n * 6
          · rw [List.getElem?_append_left (by rw [flat_len _ E6.av_len, hdl]; exact hjn)] at hj
            obtain ⟨_, _, k, e1, e2⟩ := flat_get dl j (by rw [hdl]; exact hjn)
            rw [e1] at hj; cases hj
            exact ⟨.int .i64 k, by rw [hAin j hjn, e2], VR.mk_int _ _⟩
          · rw [List.getElem?_append_right (by rw [flat_len _ E6.av_len, hdl]; omega), flat_len _ E6.av_len, hdl, List.getElem?_drop] at hj
            obtain ⟨v, hv, hvr⟩ := hcr.rel j u (by rw [← hj]; congr 1; omega)
            exact ⟨v, by rw [hAout j (by omega)]; exact hv, hvr⟩
      have hheap : (sortWorldK E6.enc 6 w cb δ m d' os).heap = w1.heap ++ os := by
        rw [hw1]
        show (w.heap.modify cb (onCells (putCells id δ (flatK E6.enc 6 d')))) ++ os = _
        congr 1
        apply Array.ext_getElem?
        intro k
        rw [Array.getElem?_modify, Array.getElem?_setIfInBounds]
        by_cases hk : cb = k
        · subst hk
          rw [if_pos rfl, if_pos rfl, if_pos hlt, g2]
          simp only [Option.map_some, onCells, hA']
        · rw [if_neg hk, if_neg hk]
      have hB1 : BelowS B w w1 := by rw [hw1]; exact below_set w cb _ hnB
      have hB2 : BelowS (· < w1.heap.size) w1 (sortWorldK E6.enc 6 w cb δ m d' os) := by
        refine ⟨by rw [hw1]; rfl, by rw [hw1]; rfl, by rw [hw1]; rfl, by rw [hheap]; simp, fun k hk => by rw [hheap, Array.getElem?_append_left hk]⟩
      refine ⟨_, rfl, μ, Img.le.refl μ, VR.mk_tup VRL.nil, hr1.below hB2, hB1.trans (hB2.mono fun k hk => ?_)⟩
      have := hr1.base k hk
      exact this
    · cases hgv
end Go.AM
