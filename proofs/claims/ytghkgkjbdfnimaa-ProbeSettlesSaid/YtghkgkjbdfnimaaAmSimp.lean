/- The abstract machine by simp: equations of code and operations; simp is kept out of what comes behind. Own work. -/
import Derived.Test.YtghkgkjbdfnimaaAmRow
namespace Go.AM
open Go
/-- Code whose open regions are all settled ahead. -/
def regsOk (T : TT) : Code → Bool
  | .region _ all draw => match draw with
    | false => true
    | true => drawOk T all && (softs T all).isEmpty
  | .seq a b => regsOk T a && regsOk T b
  | .cond _ x y => regsOk T x && regsOk T y
  | .block _ c => regsOk T c
  | .scope c => regsOk T c
  | .loop c => regsOk T c
  | .rangeFunc .. => false
  | _ => true
/-- The same as 'code', the open regions' test left out. -/
def cod (C : Cf) (T : TT) (n : Nat) : Code → Env → AH → Kt → Rs
  | .skip, e, h, K => K .normal e h
  | .region _ all _, e, h, K => ops C T all all.toList e h (K .normal)
  | .seq a b, e, h, K => cod C T n a e h (seqK (cod C T n b) K)
  | .cond c x y, e, h, K => aCond (ev e c) (cod C T n x e h K) (cod C T n y e h K)
  | .block id c, e, h, K => cod C T n c e h (blkK id K)
  | .scope c, e, h, K => cod C T n c e h K
  | .label _, e, h, K => K .normal e h
  | .loop c, e, h, K => iterL n (cod C T n c) e h K
  | .exit id, e, h, K => K (.exit id) e h
  | .ret, e, h, K => K .ret e h
  | _, _, _, _ => none
theorem code_cod {C : Cf} {T : TT} {n : Nat} : ∀ c : Code, regsOk T c = true → code C T n false c = cod C T n c
  | .skip, _ => rfl
  | .region _ all draw, h => by
    funext e hh K
    cases draw with
    | false => rfl
    | true =>
      simp only [regsOk, Bool.and_eq_true, List.isEmpty_iff] at h
      simp only [code, cod, h.1, h.2]
  | .seq a b, h => by
    simp only [regsOk, Bool.and_eq_true] at h
    funext e hh K
    simp only [code, cod, code_cod a h.1, code_cod b h.2]
  | .cond c x y, h => by
    simp only [regsOk, Bool.and_eq_true] at h
    funext e hh K
    simp only [code, cod, code_cod x h.1, code_cod y h.2]
  | .block id c, h => by funext e hh K; simp only [code, cod, code_cod c h]
  | .loop c, h => by funext e hh K; simp only [code, cod, code_cod c h]
  | .exit id, _ => rfl
  | .ret, _ => rfl
  | .rangeFunc .., h => by simp [regsOk] at h
  | .scope c, h => by funext e hh K; simp only [code, cod, code_cod c h]
  | .label _, _ => rfl
  | .goto _, _ => rfl
  | .refuse _, _ => rfl
def e0 : AH := ⟨0, .leaf⟩
end Go.AM
namespace Go.AM.Sx
open Go Go.AM
set_option linter.unusedVariables false
set_option linter.unusedSimpArgs false

theorem call_F {F I T n f args h fi} (hY : Nat.beq f YLD = false) (hI : I f = none) (hF : F f = some fi) (hr : fi.rf = false) (hok : regsOk T fi.body = true) :
    call F I T (n + 1) f args h = cod (call F I T n) T n fi.body (env0 args) h (retK T fi.results) := by
  simp [call, hY, hI, hF, body, hr, code_cod _ hok]
theorem call_I {F I T n f args h g} (hY : Nat.beq f YLD = false) (hI : I f = some g) : call F I T (n + 1) f args h = g args h := by
  simp [call, hY, hI]
theorem callV_fn {C : Cf} {g first caps args h} (hY : Nat.beq g YLD = false) : callV C (.fn g first caps) args h = C g (first ++ args ++ caps) h := by simp [callV, hY]
section
variable {C : Cf} {T : TT} {n : Nat} {all : Array Oper} {e : Env} {h : AH} {K : Kt}
theorem code_skip : cod C T n .skip e h K = K .normal e h := (rfl)
theorem code_seq {a b} : cod C T n (.seq a b) e h K = cod C T n a e h (seqK (cod C T n b) K) := (rfl)
theorem code_region {id d} : cod C T n (.region id all d) e h K = ops C T all all.toList e h (K .normal) := (rfl)
theorem code_cond {c x y} : cod C T n (.cond c x y) e h K = aCond (ev e c) (cod C T n x e h K) (cod C T n y e h K) := (rfl)
theorem code_block {id c} : cod C T n (.block id c) e h K = cod C T n c e h (blkK id K) := (rfl)
theorem code_scope {c} : cod C T n (.scope c) e h K = cod C T n c e h K := (rfl)
theorem code_label {l} : cod C T n (.label l) e h K = K .normal e h := (rfl)
theorem code_loop {c} : cod C T n (.loop c) e h K = iterL n (cod C T n c) e h K := (rfl)
theorem code_exit {id} : cod C T n (.exit id) e h K = K (.exit id) e h := (rfl)
theorem code_ret : cod C T n .ret e h K = K .ret e h := (rfl)
theorem aCond_bool {b : Bool} {x y : Rs} : aCond (.bool b) x y = if b = true then x else y := by cases b <;> rfl
theorem ops_nil {K} : ops C T all [] e h K = K e h := (rfl)
theorem ops_cons {o rest K} : ops C T all (o :: rest) e h K = (outOf C T o e h).run (guardOf all o e) h (fun v h' => ops C T all rest (e.put o.dst v) h' K) := (rfl)
theorem run_none {o : Out} {K} : o.run none h K = o.run0 h K := (rfl)
theorem run_someT {o : Out} {b K} : o.run (some (.bool b, true)) h K = if b = true then o.run0 h K else K (.tup []) h := by cases b <;> rfl
theorem run_someF {o : Out} {b K} : o.run (some (.bool b, false)) h K = if b = true then K (.tup []) h else o.run0 h K := by cases b <;> rfl
theorem run_tup {o : Out} {w l K} : o.run (some (.tup l, w)) h K = K (.tup []) h := (rfl)
theorem run0_v {v K} : (Out.v (some v)).run0 h K = K v h := (rfl)
theorem run0_h {h' K} : (Out.h (some h')).run0 h K = K .bad h' := (rfl)
theorem run0_r {v h' K} : (Out.r (some (v, h'))).run0 h K = K v h' := (rfl)
theorem seqK_normal {f : Env → AH → Kt → Rs} : seqK f K .normal e h = f e h K := (rfl)
theorem seqK_exit {f : Env → AH → Kt → Rs} {i} : seqK f K (.exit i) e h = K (.exit i) e h := (rfl)
theorem seqK_ret {f : Env → AH → Kt → Rs} : seqK f K .ret e h = K .ret e h := (rfl)
theorem blkK_normal {id} : blkK id K .normal e h = K .normal e h := (rfl)
theorem blkK_ret {id} : blkK id K .ret e h = K .ret e h := (rfl)
theorem blkK_exit {id i} : blkK id K (.exit i) e h = if i = id then K .normal e h else K (.exit i) e h := by
  simp only [blkK]
  cases hb : Nat.beq i id with
  | true => rw [if_pos (Nat.eq_of_beq_eq_true hb)]
  | false => rw [if_neg (Nat.ne_of_beq_eq_false hb)]
theorem retK_normal {rs} : retK T rs .normal e h = (resultsOf T rs e h).map fun vs => (oneOrAll vs, h) := (rfl)
theorem retK_ret {rs} : retK T rs .ret e h = (resultsOf T rs e h).map fun vs => (oneOrAll vs, h) := (rfl)
theorem put_at (d t : Nat) (v : AV) : Env.put e (some d) v t = if t = d then v else e t := by
  simp only [Env.put, Env.set]
  cases h : Nat.beq t d with
  | true => have := Nat.eq_of_beq_eq_true h; subst this; simp
  | false => rw [if_neg (Nat.ne_of_beq_eq_false h)]
theorem put_same (d : Nat) (v : AV) : Env.put e (some d) v d = v := by rw [put_at, if_pos rfl]
theorem put_ne {d t : Nat} (hn : t ≠ d) (v : AV) : Env.put e (some d) v t = e t := by rw [put_at, if_neg hn]
theorem put_none (v : AV) : Env.put e none v = e := (rfl)
theorem env0_at {args : List AV} {i : Nat} : env0 args i = (args[i]?).getD .bad := (rfl)
theorem ev_tmp {t} : ev e (.tmp t) = e t := (rfl)
theorem ev_const {v} : ev e (.const v) = ofConst v := (rfl)
theorem ev_func {f} : ev e (.func f) = .fn f [] [] := (rfl)
theorem oc_int {k n} : ofConst (.int k n) = .int k n := (rfl)
theorem oc_bool {b} : ofConst (.bool b) = .bool b := (rfl)
theorem oc_str {s} : ofConst (.string s) = .str s.data.toList := (rfl)
section
variable {dst : Option Nat} {type : TypeId} {pos : String} {after : Array Edge} {guard : Option (Nat × Bool)}
theorem o_move {x} : outOf C T ⟨dst, .move x, type, pos, after, guard⟩ e h = .v (some (ev e x)) := (rfl)
theorem o_assign {x} : outOf C T ⟨dst, .assign x, type, pos, after, guard⟩ e h = .v (some (ev e x)) := (rfl)
theorem o_pick {c a b} : outOf C T ⟨dst, .pick c a b, type, pos, after, guard⟩ e h = .v (aPick (ev e c) (ev e a) (ev e b)) := (rfl)
theorem o_bin {op t x y yt} : outOf C T ⟨dst, .binOp op t x y yt, type, pos, after, guard⟩ e h = .v (aBin T op t (ev e x) (ev e y) h) := (rfl)
theorem o_call {f args ts} : outOf C T ⟨dst, .call ⟨.value f, args, ts⟩, type, pos, after, guard⟩ e h = .r (callV C (ev e f) (args.toList.map (ev e)) h) := (rfl)
theorem o_len {x t} : outOf C T ⟨dst, .call ⟨.builtin .len, #[x], #[t]⟩, type, pos, after, guard⟩ e h = .v (aLen T t (ev e x) h) := (rfl)
theorem g_none {op} : guardOf all ⟨dst, op, type, pos, after, none⟩ e = none := (rfl)
theorem g_some {op j w} : guardOf all ⟨dst, op, type, pos, after, some (j, w)⟩ e = (match (all[j]?).bind (·.dst) with | some d => some (e d, w) | none => some (.bad, w)) := (rfl)
end
theorem pick_bool {b : Bool} {x y : AV} : aPick (.bool b) x y = some (if b = true then x else y) := by cases b <;> rfl
end
@[congr] theorem run_congr {o o' : Out} {g g' : Option (AV × Bool)} {h : AH} {K : AV → AH → Rs} (ho : o = o') (hg : g = g') : o.run g h K = o'.run g' h K := by rw [ho, hg]
@[congr] theorem run0_congr {o o' : Out} {h : AH} {K : AV → AH → Rs} (ho : o = o') : o.run0 h K = o'.run0 h K := by rw [ho]
@[congr] theorem aCond_congr {c c' : AV} {x y : Rs} (hc : c = c') : aCond c x y = aCond c' x y := by rw [hc]
@[congr] theorem code_congr {C : Cf} {T : TT} {n : Nat} {c : Code} {e : Env} {h : AH} {K : Kt} : cod C T n c e h K = cod C T n c e h K := (rfl)
@[congr] theorem ops_congr {C : Cf} {T : TT} {all : Array Oper} {l : List Oper} {e : Env} {h : AH} {K : Env → AH → Rs} : ops C T all l e h K = ops C T all l e h K := (rfl)
@[congr] theorem guardOf_congr' {all : Array Oper} {o : Oper} {e : Env} : guardOf all o e = guardOf all o e := (rfl)


section
variable {C : Cf} {T : TT} {e : Env} {h : AH} {dst : Option Nat} {type : TypeId} {pos : String} {after : Array Edge} {guard : Option (Nat × Bool)}
theorem o_alloc {t} : outOf C T ⟨dst, .alloc t, type, pos, after, guard⟩ e h = .r (aAlloc T t h) := (rfl)
theorem o_box {t x} : outOf C T ⟨dst, .box t x, type, pos, after, guard⟩ e h = .r (aBox (ev e x) h) := (rfl)
theorem o_build {t ps} : outOf C T ⟨dst, .build t ps, type, pos, after, guard⟩ e h = .v (aBuild T t (parts e ps)) := (rfl)
theorem o_buildSlice {t k ps} : outOf C T ⟨dst, .buildSlice t k ps, type, pos, after, guard⟩ e h = .r (aBuildSlice T t k (parts e ps) h) := (rfl)
theorem o_load {t x} : outOf C T ⟨dst, .load t x, type, pos, after, guard⟩ e h = .v (aLoad T t (ev e x) h) := (rfl)
theorem o_store {t x y} : outOf C T ⟨dst, .store t x y, type, pos, after, guard⟩ e h = .h (aStore T t (ev e x) (ev e y) h) := (rfl)
theorem o_nilCheck {x} : outOf C T ⟨dst, .nilCheck x, type, pos, after, guard⟩ e h = .v (aNil (ev e x)) := (rfl)
theorem o_un {op t x} : outOf C T ⟨dst, .unOp op t x, type, pos, after, guard⟩ e h = .v (aUn op (ev e x)) := (rfl)
theorem o_convert {s d x} : outOf C T ⟨dst, .convert s d x, type, pos, after, guard⟩ e h = .r (aConv T s d (ev e x) h) := (rfl)
theorem o_makeFunc {f first caps} : outOf C T ⟨dst, .makeFunc (.func f) first caps, type, pos, after, guard⟩ e h = .v (some (.fn f (first.toList.map (ev e)) (caps.toList.map (ev e)))) := (rfl)
theorem o_makeSlice {t l c} : outOf C T ⟨dst, .makeSlice t l c, type, pos, after, guard⟩ e h = .r (aMakeSlice T t (ev e l) (ev e c) h) := (rfl)
theorem o_slice {t x lo hi mx} : outOf C T ⟨dst, .slice t x lo hi mx, type, pos, after, guard⟩ e h = .v (aSlice T t (ev e x) (lo.map (ev e)) (hi.map (ev e)) (mx.map (ev e))) := (rfl)
theorem o_fieldAddr {t x f} : outOf C T ⟨dst, .fieldAddr t x f, type, pos, after, guard⟩ e h = .v (aFieldAddr T t (ev e x) f) := (rfl)
theorem o_field {t x f} : outOf C T ⟨dst, .field t x f, type, pos, after, guard⟩ e h = .v (aField T t (ev e x) f) := (rfl)
theorem o_indexAddr {t x i} : outOf C T ⟨dst, .indexAddr t x i, type, pos, after, guard⟩ e h = .v (aIndexAddr T t (ev e x) (ev e i)) := (rfl)
theorem o_index {t x i} : outOf C T ⟨dst, .index t x i, type, pos, after, guard⟩ e h = .v (aIndex T t (ev e x) (ev e i)) := (rfl)
theorem o_extract {x i} : outOf C T ⟨dst, .extract x i, type, pos, after, guard⟩ e h = .v (aExtract (ev e x) i) := (rfl)
theorem o_append {x y s t} : outOf C T ⟨dst, .call ⟨.builtin .append, #[x, y], #[s, t]⟩, type, pos, after, guard⟩ e h = .r (aAppend T s t (ev e x) (ev e y) h) := (rfl)
theorem o_min {x y ts} : outOf C T ⟨dst, .call ⟨.builtin .min, #[x, y], ts⟩, type, pos, after, guard⟩ e h = .v (aMin (ev e x) (ev e y)) := (rfl)
theorem o_max {x y ts} : outOf C T ⟨dst, .call ⟨.builtin .max, #[x, y], ts⟩, type, pos, after, guard⟩ e h = .v (aMax (ev e x) (ev e y)) := (rfl)
theorem bin_add {t k a b} : aBin T .add t (.int k a) (.int k b) h = some (.int k (k.wrap (a + b))) := by simp [aBin, intOp]
theorem bin_sub {t k a b} : aBin T .sub t (.int k a) (.int k b) h = some (.int k (k.wrap (a - b))) := by simp [aBin, intOp]
theorem bin_mul {t k a b} : aBin T .mul t (.int k a) (.int k b) h = some (.int k (k.wrap (a * b))) := by simp [aBin, intOp]
theorem bin_quo {t k a b} : aBin T .quo t (.int k a) (.int k b) h = if b = 0 then none else some (.int k (k.wrap (a.tdiv b))) := by simp [aBin, intOp]
theorem bin_rem {t k a b} : aBin T .rem t (.int k a) (.int k b) h = if b = 0 then none else some (.int k (a.tmod b)) := by simp [aBin, intOp]
theorem bin_or {t k a b} : aBin T .or t (.int k a) (.int k b) h = some (.int k (k.wrap (BitVec.ofInt k.bits a ||| BitVec.ofInt k.bits b).toNat)) := by simp [aBin, intOp]
theorem bin_and {t k a b} : aBin T .and t (.int k a) (.int k b) h = some (.int k (k.wrap (BitVec.ofInt k.bits a &&& BitVec.ofInt k.bits b).toNat)) := by simp [aBin, intOp]
theorem bin_eql {t k a b} : aBin T .eql t (.int k a) (.int k b) h = some (.bool (decide (a = b))) := by simp [aBin, intOp]; rfl
theorem bin_neq {t k a b} : aBin T .neq t (.int k a) (.int k b) h = some (.bool (!decide (a = b))) := by simp [aBin, intOp]; rfl
theorem bool_eql {t ti a b} (ht : T t = some ti) (hd : ti.desc = .bool) : aBin T .eql t (.bool a) (.bool b) h = some (.bool (decide (a = b))) := by simp [aBin, eqV, ht, hd]; cases a <;> cases b <;> rfl
theorem bool_neq {t ti a b} (ht : T t = some ti) (hd : ti.desc = .bool) : aBin T .neq t (.bool a) (.bool b) h = some (.bool (!decide (a = b))) := by simp [aBin, eqV, ht, hd]; cases a <;> cases b <;> rfl
theorem bin_lss {t k a b} : aBin T .lss t (.int k a) (.int k b) h = some (.bool (decide (a < b))) := by simp [aBin, intOp]
theorem bin_leq {t k a b} : aBin T .leq t (.int k a) (.int k b) h = some (.bool (decide (a ≤ b))) := by simp [aBin, intOp]
theorem bin_gtr {t k a b} : aBin T .gtr t (.int k a) (.int k b) h = some (.bool (decide (a > b))) := by simp [aBin, intOp]
theorem bin_geq {t k a b} : aBin T .geq t (.int k a) (.int k b) h = some (.bool (decide (a ≥ b))) := by simp [aBin, intOp]
theorem bin_shr {t k a b k'} : aBin T .shr t (.int k a) (.int k' b) h = if b < 0 then none else some (.int k (a.fdiv (2 ^ min b.toNat k.bits))) := by simp [aBin]
theorem bin_shl {t k a b k'} : aBin T .shl t (.int k a) (.int k' b) h = if b < 0 then none else some (.int k (k.wrap (a * 2 ^ min b.toNat k.bits))) := by simp [aBin]
theorem str_add {t x y} : aBin T .add t (.str x) (.str y) h = if ((x.length + y.length : Nat) : Int) > 9223372036854775807 then none else some (.str (x ++ y)) := (rfl)
theorem beq_dec (x y : List UInt8) : (x == y) = decide (x = y) := by rw [Bool.eq_iff_iff]; simp
theorem str_eql {t x y} : aBin T .eql t (.str x) (.str y) h = some (.bool (decide (x = y))) := by simp only [aBin, strOp, beq_dec]
theorem str_neq {t x y} : aBin T .neq t (.str x) (.str y) h = some (.bool !(decide (x = y))) := by simp only [aBin, strOp, beq_dec]
theorem len_str {t ti s} (ht : T t = some ti) (hd : ti.desc = .string) : aLen T t (.str s) h = some (.int .i64 s.length) := by simp [aLen, ht, hd]
theorem len_nils {t ti el} (ht : T t = some ti) (hd : ti.desc = .slice el) : aLen T t .nils h = some (.int .i64 0) := by simp [aLen, ht, hd]
theorem len_sl {t ti el b o len cap sz ex} (ht : T t = some ti) (hd : ti.desc = .slice el) : aLen T t (.sl b o len cap sz ex) h = some (.int .i64 len) := by simp [aLen, ht, hd]
theorem un_not {b} : aUn .not (.bool b) = some (.bool !b) := (rfl)
theorem extract_tup {vs : List AV} {i} : aExtract (.tup vs) i = vs[i]? := (rfl)
end

/-- A loop, by what holds ahead of each round. The number: at most how many rounds are left. -/
theorem iterL_run {f : Env → AH → Kt → Rs} {K : Kt} (Inv : Nat → Env → AH → Prop) (Done : Ex → Env → AH → Prop)
    (hstep : ∀ (k : Nat) (e : Env) (h : AH) (K' : Kt), Inv k e h →
      (∃ j e' h', k = j + 1 ∧ Inv j e' h' ∧ f e h K' = K' .normal e' h') ∨ (∃ ex e' h', ex ≠ .normal ∧ Done ex e' h' ∧ f e h K' = K' ex e' h')) :
    ∀ (N m : Nat) (e : Env) (h : AH), Inv N e h → N < m → ∃ ex e' h', ex ≠ .normal ∧ Done ex e' h' ∧ iterL m f e h K = K ex e' h'
  | N, 0, e, h, _, hm => by omega
  | N, m + 1, e, h, hI, hm => by
    simp only [iterL]
    rcases hstep N e h (fun ex e h => match ex with | .normal => iterL m f e h K | ex => K ex e h) hI with ⟨j, e', h', hj, hI', he⟩ | ⟨ex, e', h', hex, hD, he⟩
    · obtain ⟨ex, e2, h2, hex, hD, heq⟩ := iterL_run (K := K) Inv Done hstep j m e' h' hI' (by omega)
      exact ⟨ex, e2, h2, hex, hD, Eq.trans he heq⟩
    · refine ⟨ex, e', h', hex, hD, ?_⟩
      refine Eq.trans he ?_
      cases ex with
      | normal => exact absurd rfl hex
      | exit i => rfl
      | ret => rfl

theorem iterL_goal {f : Env → AH → Kt → Rs} {K : Kt} {m : Nat} {e : Env} {h : AH} (Q : Rs → Prop) (Inv : Nat → Env → AH → Prop) (Done : Ex → Env → AH → Prop) (N : Nat)
    (hstep : ∀ (k : Nat) (e : Env) (h : AH) (K' : Kt), Inv k e h →
      (∃ j e' h', k = j + 1 ∧ Inv j e' h' ∧ f e h K' = K' .normal e' h') ∨ (∃ ex e' h', ex ≠ .normal ∧ Done ex e' h' ∧ f e h K' = K' ex e' h'))
    (hI : Inv N e h) (hm : N < m) (hd : ∀ ex e' h', Done ex e' h' → Q (K ex e' h')) : Q (iterL m f e h K) := by
  obtain ⟨ex, e', h', _, hD, heq⟩ := iterL_run (K := K) Inv Done hstep N m e h hI hm
  rw [heq]
  exact hd ex e' h' hD

/-- The same, each round by what its end must show. -/
theorem iterL_wp {f : Env → AH → Kt → Rs} {K : Kt} {m : Nat} {e : Env} {h : AH} (Q : Rs → Prop) (Inv : Nat → Env → AH → Prop) (N : Nat)
    (hstep : ∀ (k : Nat) (e : Env) (h : AH) (K' : Kt), Inv k e h → (∀ j e' h', k = j + 1 → Inv j e' h' → Q (K' .normal e' h')) →
      (∀ ex e' h', ex ≠ .normal → Q (K ex e' h') → Q (K' ex e' h')) → Q (f e h K'))
    (hI : Inv N e h) (hm : N < m) : Q (iterL m f e h K) := by
  induction m generalizing N e h with
  | zero => omega
  | succ m ih =>
    simp only [iterL]
    refine hstep N e h _ hI (fun j e' h' hj hI' => ih j hI' (by omega)) (fun ex e' h' hex hQ => ?_)
    cases ex with
    | normal => exact absurd rfl hex
    | exit i => exact hQ
    | ret => exact hQ

/-! Lists, memory. -/
section
variable {T : TT} {h : AH} {t : TypeId} {ti : TI}
theorem len_lst {el ex sz n cs} (ht : T t = some ti) (hd : ti.desc = .slice el) : aLen T t (.lst ex sz n cs) h = some (.int .i64 n) := by simp [aLen, ht, hd]
theorem load_fp1 {cs} (ht : T t = some ti) (ha : ti.agg = false) : aLoad T t (.fp cs) h = cs[0]? := by simp [aLoad, ht, ha]
theorem load_fpA {cs} (ht : T t = some ti) (ha : ti.agg = true) : aLoad T t (.fp cs) h = if ti.size ≤ cs.length then some (.agg (cs.take ti.size)) else none := by simp [aLoad, ht, ha]
theorem load_p1 {b o} (ht : T t = some ti) (ha : ti.agg = false) : aLoad T t (.ptr b o) h = h.loadc b o := by simp [aLoad, ht, ha]
theorem load_pA {b o} (ht : T t = some ti) (ha : ti.agg = true) : aLoad T t (.ptr b o) h = (h.loadn b o ti.size).map .agg := by simp [aLoad, ht, ha]
theorem nil_ptr {b o} : aNil (.ptr b o) = some (.ptr b o) := (rfl)
theorem nil_fp {cs} : aNil (.fp cs) = some (.fp cs) := (rfl)
theorem fa_ptr {b o f off size agg} (ht : T t = some ti) (hp : ti.places[f]? = some (off, size, agg)) (hs : size ≠ 0) : aFieldAddr T t (.ptr b o) f = some (.ptr b (o + off)) := by simp [aFieldAddr, ht, hp, hs]
theorem fa_fp {cs f off size agg} (ht : T t = some ti) (hp : ti.places[f]? = some (off, size, agg)) (hs : size ≠ 0) : aFieldAddr T t (.fp cs) f = if cs.length < off then none else some (.fp (cs.drop off)) := by
  simp [aFieldAddr, ht, hp, hs]
theorem fld {cs f off size agg} (ht : T t = some ti) (hp : ti.places[f]? = some (off, size, agg)) : aField T t (.agg cs) f = aPart off size agg cs := by simp [aField, ht, hp]
theorem part_1 {off size cs} : aPart off size false cs = cs[off]? := (rfl)
theorem part_A {off size cs} : aPart off size true cs = some (.agg ((cs.drop off).take size)) := (rfl)
theorem ia_lst {el te ex sz n cs k i} (ht : T t = some ti) (hd : ti.desc = .slice el) (he : T el = some te) (hs : te.size = sz) : aIndexAddr T t (.lst ex sz n cs) (.int k i) = if 0 ≤ i ∧ i < n then some (.fp (cs.drop (i.toNat * sz))) else none := by
  simp [aIndexAddr, ht, hd, he, hs]
theorem ia_sl {el te b o len cap sz ex k i} (ht : T t = some ti) (hd : ti.desc = .slice el) (he : T el = some te) (hs : te.size = sz) : aIndexAddr T t (.sl b o len cap sz ex) (.int k i) = if 0 ≤ i ∧ i < len then some (.ptr b (o + i.toNat * sz)) else none := by
  simp [aIndexAddr, ht, hd, he, hs]
theorem ia_arr {len el te b o k i} (ht : T t = some ti) (hd : ti.desc = .array len el) (he : T el = some te) : aIndexAddr T t (.ptr b o) (.int k i) = if 0 ≤ i ∧ i < len then some (.ptr b (o + i.toNat * te.size)) else none := by
  simp [aIndexAddr, ht, hd, he]
theorem ix_str {s k i} (ht : T t = some ti) (hd : ti.desc = .string) : aIndex T t (.str s) (.int k i) = if 0 ≤ i then (s[i.toNat]?).map fun c => .int .u8 c.toNat else none := by simp [aIndex, ht, hd]
theorem alloc_t (ht : T t = some ti) : aAlloc T t h = some (.ptr h.next 0, h.alloc (.cells ti.zero .own)) := by simp [aAlloc, ht]
theorem box_v {v cs} (hc : AV.cells v = some cs) : aBox v h = some (.ptr h.next 0, h.alloc (.cells cs .own)) := by simp [aBox, hc]
theorem loadc_def {b o} : h.loadc b o = match h.get b with | some (.cells cs _) => cs[o]? | _ => none := (rfl)
theorem loadn_def {b o n} : h.loadn b o n = match h.get b with | some (.cells cs _) => if o + n ≤ cs.length then some ((cs.drop o).take n) else none | _ => none := (rfl)
theorem store_1 {b o v cs} (ht : T t = some ti) (hs : ti.size = 1) (hc : AV.cells v = some [v]) (ho : v.one = true) (hg : h.get b = some (.cells cs .own)) (hl : o < cs.length) :
    aStore T t (.ptr b o) v h = some (h.put b (.cells (cs.set o v) .own)) := by
  have h1 : AH.splice cs o [v] = cs.set o v := by simp [AH.splice, List.set_eq_take_append_cons_drop, hl]
  simp [aStore, ht, hc, hs, AH.storen, hg, ho, h1]; omega
theorem store_n {b o v cs vs} (ht : T t = some ti) (hc : AV.cells v = some vs) (hs : vs.length = ti.size) (ho : vs.all AV.one = true) (hg : h.get b = some (.cells cs .own)) (hl : o + vs.length ≤ cs.length) :
    aStore T t (.ptr b o) v h = some (h.put b (.cells (AH.splice cs o vs) .own)) := by
  have h2 : vs.all AV.one = true := ho
  simp only [aStore, ht, hc, hs, if_true, AH.storen, hg]
  rw [if_pos ⟨by omega, h2⟩]
theorem get_e0 {b} : e0.get b = none := by simp [e0, AH.get, PT.get]
theorem next_e0 : e0.next = 0 := (rfl)
theorem next_one {cs} : (oneBlk cs).next = 1 := (rfl)
theorem sl_lst {el te ex sz n cs lo hi l u} (ht : T t = some ti) (hd : ti.desc = .slice el) (he : T el = some te) (hs : te.size = sz) (hhi : bnd hi n = some u) (hlo : bnd lo 0 = some l) (h1 : l ≤ u) (h2 : u ≤ n) :
    aSlice T t (.lst ex sz n cs) lo hi none = some (.lst (ex && Nat.beq u n) sz (u - l) ((cs.drop (l * sz)).take ((u - l) * sz))) := by
  have h3 : bnd none n = some n := rfl
  simp [aSlice, ht, hd, he, hs, hhi, hlo, h1, h2, h3]
theorem sl_str {s lo hi l u} (ht : T t = some ti) (hd : ti.desc = .string) (hhi : bnd hi s.length = some u) (hlo : bnd lo 0 = some l) (h1 : l ≤ u) (h2 : u ≤ s.length) :
    aSlice T t (.str s) lo hi none = some (.str ((s.take u).drop l)) := by
  simp [aSlice, ht, hd, hhi, hlo, h1, h2]
end
end Go.AM.Sx
