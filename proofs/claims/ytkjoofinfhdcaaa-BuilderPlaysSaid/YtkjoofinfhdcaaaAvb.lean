/-
  An abstract reading of values and memory: operators.
  An abstract reading of values and memory: values that are put together.
-/
import Derived.Test.YtkjoofinfhdcaaaAv9
import Derived.Laws.Tables
import Derived.Great.FillDense
import Derived.Great.BuildSlice
namespace Av
open Go
section
variable {P : Program} {tb : Tb}

def noAgg : Value → Bool
 | .agg _ => false
 | .nilIface => false
 | _ => true
theorem guard_run (op : BinOp) (T : TypeId) (ox oy : Operand) (a b : Value) (h : noAgg a = true) (w : World) : (eqGuard op T ox oy a b).run P w = .ok () w := by
 cases op <;> cases a <;> simp_all [eqGuard, noAgg]
theorem bin_Gv_of {s : St} (hok : Ok s) {nid : Nat} {op : BinOp} {T : TypeId} {ox oy : Operand} {cx cy cv : Value} {v : AV} (hn : noAgg cx = true) (hr : (Go.binOp op T cx cy).run P s.w = .ok cv s.w) (hv : R s v cv) :
  Gv P (do eqGuard op T ox oy cx cy; Go.binOp op T cx cy) s nid v none := by
 refine Gv.same hok ?_ hv
 rw [Sem.run_bind, guard_run op T ox oy cx cy hn s.w]
 exact hr
theorem intBin_Gv {s : St} (hok : Ok s) {nid : Nat} {op : BinOp} {T : TypeId} {ox oy : Operand} {k k' : IntKind} {a b : Int} {v : AV} {ob : Option AObj} (h : (pBin tb op T (.int k a) (.int k' b)).Is v ob) :
  Gv P (do eqGuard op T ox oy (.int k a) (.int k' b); Go.binOp op T (.int k a) (.int k' b)) s nid v ob := by
 unfold pBin at h
 simp only at h
 split at h
 ·obtain ⟨⟨h0, h1, h2⟩, rfl, rfl⟩ := h
  refine bin_Gv_of (cv := .int k (a * 2 ^ b.toNat)) hok rfl ?_ (by simp only [R])
  have e : min b.toNat k.bits = b.toNat := by omega
  simp only [Go.binOp, Op.shift, if_neg (Int.not_lt.2 h0), e, wrap_in h2, Sem.run_pure]
 ·obtain ⟨⟨h0, h1⟩, rfl, rfl⟩ := h
  refine bin_Gv_of (cv := .int k (a / 2 ^ b.toNat)) hok rfl ?_ (by simp only [R])
  have e : min b.toNat k.bits = b.toNat := by omega
  have hp : (0 : Int) ≤ 2 ^ b.toNat := by
   exact Int.le_of_lt (Int.pow_pos (by decide))
  simp only [Go.binOp, Op.shift, if_neg (Int.not_lt.2 h0), e, Sem.run_pure, Int.fdiv_eq_ediv_of_nonneg a hp]
 ·split at h
  ·exact h.elim
  ·rename_i hk
   have hk := of_decide_eq_true hk
   subst hk
   split at h
   ·obtain ⟨hin, rfl, rfl⟩ := h
    exact bin_Gv_of hok rfl (by simp [Go.binOp, Op.intArith, wrap_in hin]; rfl) (by simp only [R])
   ·obtain ⟨hin, rfl, rfl⟩ := h
    exact bin_Gv_of hok rfl (by simp [Go.binOp, Op.intArith, wrap_in hin]; rfl) (by simp only [R])
   ·obtain ⟨hin, rfl, rfl⟩ := h
    exact bin_Gv_of hok rfl (by simp [Go.binOp, Op.intArith, wrap_in hin]; rfl) (by simp only [R])
   ·obtain ⟨⟨h0, h1, hin⟩, rfl, rfl⟩ := h
    have hb : b ≠ 0 := by omega
    exact bin_Gv_of (cv := .int k (a / b)) hok rfl (by simp [Go.binOp, Op.intDiv, hb, Int.tdiv_eq_ediv_of_nonneg h0, wrap_in hin]) (by simp only [R])
   ·obtain ⟨⟨h0, h1⟩, rfl, rfl⟩ := h
    have hb : b ≠ 0 := by omega
    exact bin_Gv_of (cv := .int k (a % b)) hok rfl (by simp [Go.binOp, Op.intDiv, hb, Int.tmod_eq_emod_of_nonneg h0]) (by simp only [R])
   all_goals first
    | exact h.elim
    | (obtain ⟨rfl, rfl⟩ := h; exact bin_Gv_of hok rfl (by simp [Go.binOp, Op.intCmp]; rfl) (by simp only [R]))
theorem strBin_Gv {s : St} (hok : Ok s) {nid : Nat} {op : BinOp} {T : TypeId} {ox oy : Operand} {a b : ByteArray} {v : AV} {ob : Option AObj} (h : (pBin tb op T (.str a) (.str b)).Is v ob) :
  Gv P (do eqGuard op T ox oy (.string a) (.string b); Go.binOp op T (.string a) (.string b)) s nid v ob := by
 unfold pBin at h
 simp only at h
 have hgt : (Op.bytesLess a.toList b.toList || a.toList == b.toList) = !sLt b a := by
  rw [sLt, ← bytesLess_tri, ByteArray.toList_eq, ByteArray.toList_eq]
 split at h
 ·obtain ⟨hin, rfl, rfl⟩ := h
  refine bin_Gv_of (cv := .string (a ++ b)) hok rfl ?_ (by simp only [R])
  have : ¬ ((a.size + b.size : Nat) : Int) > IntKind.i64.max := by
   have : IntKind.i64.max = 9223372036854775807 := by decide
   rw [this]; omega
  simp only [Go.binOp, Op.stringOp, if_neg this, Sem.run_pure]
 ·obtain ⟨rfl, rfl⟩ := h
  exact bin_Gv_of (cv := .bool (sEq a b)) hok rfl (by simp only [Go.binOp, Op.stringOp, sEq_model, Sem.run_pure]) (by simp only [R])
 ·obtain ⟨rfl, rfl⟩ := h
  exact bin_Gv_of (cv := .bool (!sEq a b)) hok rfl (by simp only [Go.binOp, Op.stringOp, sEq_model, Sem.run_pure]) (by simp only [R])
 ·obtain ⟨rfl, rfl⟩ := h
  exact bin_Gv_of (cv := .bool (sLt a b)) hok rfl (by simp only [Go.binOp, Op.stringOp, sLt_model, Sem.run_pure]) (by simp only [R])
 ·obtain ⟨rfl, rfl⟩ := h
  exact bin_Gv_of (cv := .bool (!sLt b a)) hok rfl (by simp only [Go.binOp, Op.stringOp, hgt, Sem.run_pure]) (by simp only [R])
 ·obtain ⟨rfl, rfl⟩ := h
  exact bin_Gv_of (cv := .bool (sLt b a)) hok rfl (by simp only [Go.binOp, Op.stringOp, hgt, Bool.not_not, Sem.run_pure]) (by simp only [R])
 ·obtain ⟨rfl, rfl⟩ := h
  exact bin_Gv_of (cv := .bool (!sLt a b)) hok rfl (by simp only [Go.binOp, Op.stringOp, sLt_model, Sem.run_pure]) (by simp only [R])
 ·exact h.elim
theorem kind_get {T : TypeId} {k : TK} (h : kindOf tb T = some k) : ∃ ti, lk tb T = some ti ∧ ti.kind = k := by
 unfold kindOf at h
 cases hl : lk tb T with
 | none => rw [hl] at h; cases h
 | some ti => rw [hl] at h; exact ⟨ti, rfl, Option.some.inj h⟩
theorem bool_und (hT : TbOk P tb) {T : TypeId} {ti : TI} (h : lk tb T = some ti) (hk : ti.kind = .bool) : P.underlying T = some .bool := by
 obtain ⟨d, hd, hf⟩ := (tb_und hT h).und
 rw [hk] at hf
 cases d <;> simp only [TK.fits] at hf <;> first
  | (cases hf; done)
  | exact hd
theorem ptr_und (hT : TbOk P tb) {T : TypeId} {ti : TI} {e : TypeId} (h : lk tb T = some ti) (hk : ti.kind = .ptr e) : ∃ e, P.underlying T = some (.pointer e) := by
 obtain ⟨d, hd, hf⟩ := (tb_und hT h).und
 rw [hk] at hf
 cases d <;> simp only [TK.fits] at hf <;> first
  | (cases hf; done)
  | exact ⟨_, hd⟩
theorem eql_run {s : St} {T : TypeId} {cx cy : Value} {b : Bool} (hq : (Op.equal T cx cy).run P s.w = .ok b s.w)
  (hb : Go.binOp .eql T cx cy = (do pure (.bool (← Op.equal T cx cy))) ∧ Go.binOp .neq T cx cy = (do pure (.bool (!(← Op.equal T cx cy))))) :
  (Go.binOp .eql T cx cy).run P s.w = .ok (.bool b) s.w ∧ (Go.binOp .neq T cx cy).run P s.w = .ok (.bool (!b)) s.w := by
 rw [hb.1, hb.2]
 simp only [Sem.run_bind, hq, Result.andThen_ok, Sem.run_pure, and_self]
theorem ptrEq_run (d : Nat) (T e : TypeId) (h : P.underlying T = some (.pointer e)) (a : Option Addr) (w : World) : (Op.equalIn (d + 1) T (.pointer a) (.pointer none)).run P w = .ok a.isNone w := by
 simp only [Op.equalIn, Sem.run_bind, run_underlying h, Result.andThen_ok]
 cases a <;> rfl
theorem hx_fn {s : St} {f : Fn} {first caps : List AV} {v : Value} (h : R s (.fn f first caps) v) : ∃ xs ys : List Value, v = .func f xs.toArray ys.toArray ∧ True := by
 simp only [R] at h
 obtain ⟨xs, ys, h, _⟩ := h
 exact ⟨xs, ys, h, trivial⟩
theorem fin_Gv {s : St} (hok : Ok s) {nid : Nat} {op : BinOp} {T : TypeId} {ox oy : Operand} {cx cy : Value} {b : Bool} (hq : (Op.equal T cx cy).run P s.w = .ok b s.w)
  (hb : Go.binOp .eql T cx cy = (do pure (.bool (← Op.equal T cx cy))) ∧ Go.binOp .neq T cx cy = (do pure (.bool (!(← Op.equal T cx cy))))) (hg : noAgg cx = true) {v : AV} {ob : Option AObj} (h : (finEq op b).Is v ob) :
  Gv P (do eqGuard op T ox oy cx cy; Go.binOp op T cx cy) s nid v ob := by
 have hr := eql_run (P := P) (s := s) (T := T) hq hb
 unfold finEq at h
 split at h
 ·obtain ⟨rfl, rfl⟩ := h
  exact bin_Gv_of hok hg hr.1 (by simp only [R])
 ·obtain ⟨rfl, rfl⟩ := h
  exact bin_Gv_of hok hg hr.2 (by simp only [R])
 ·exact h.elim
theorem fn_und (hT : TbOk P tb) {T : TypeId} {ti : TI} (h : lk tb T = some ti) (hk : ti.kind = .fn) : ∃ a b c, P.underlying T = some (.func a b c) := by
 obtain ⟨d, hd, hf⟩ := (tb_und hT h).und
 rw [hk] at hf
 cases d <;> simp only [TK.fits] at hf <;> first
  | (cases hf; done)
  | exact ⟨_, _, _, hd⟩
theorem ifc_und (hT : TbOk P tb) {T : TypeId} {ti : TI} (h : lk tb T = some ti) (hk : ti.kind = .ifc) : ∃ a, P.underlying T = some (.interface a) := by
 obtain ⟨d, hd, hf⟩ := (tb_und hT h).und
 rw [hk] at hf
 cases d <;> simp only [TK.fits] at hf <;> first
  | (cases hf; done)
  | exact ⟨_, hd⟩
theorem sliceEq_run (d : Nat) (T e : TypeId) (h : P.underlying T = some (.slice e)) (a : Option Addr) (n c : Nat) (w : World) : (Op.equalIn (d + 1) T (.slice a n c) (.slice none 0 0)).run P w = .ok a.isNone w := by
 simp only [Op.equalIn, Sem.run_bind, run_underlying h, Result.andThen_ok]
 cases a <;> rfl
theorem fnEq_run (d : Nat) (T : TypeId) {a b c} (h : P.underlying T = some (.func a b c)) (w : World) : (Op.equalIn (d + 1) T .nilFunc .nilFunc).run P w = .ok true w ∧ ∀ f x y, (Op.equalIn (d + 1) T (.func f x y) .nilFunc).run P w = .ok false w := by
 refine ⟨?_, fun f x y => ?_⟩
 ·simp only [Op.equalIn, Sem.run_bind, run_underlying h, Result.andThen_ok]; rfl
 ·simp only [Op.equalIn, Sem.run_bind, run_underlying h, Result.andThen_ok]; rfl
theorem ifcEq_run (d : Nat) (T : TypeId) {a} (h : P.underlying T = some (.interface a)) (w : World) (t : TypeId) (u : Value) : (Op.equalIn (d + 1) T (.iface t u) .nilIface).run P w = .ok false w := by
 simp only [Op.equalIn, Sem.run_bind, run_underlying h, Result.andThen_ok]; rfl
theorem nilEq_Gv (hT : TbOk P tb) {s : St} (hok : Ok s) {nid : Nat} {op : BinOp} {T : TypeId} {ox oy : Operand} {x y : AV} {cx cy : Value} (hx : R s x cx) (hy : R s y cy) {v : AV} {ob : Option AObj} (h : (pNilEq tb op T x y).Is v ob) :
  Gv P (do eqGuard op T ox oy cx cy; Go.binOp op T cx cy) s nid v ob := by
 unfold pNilEq at h
 have lst : ∀ {t : Ty} {l : List t.El} {e : TypeId}, P.underlying T = some (.slice e) → RLst s t l cx → cy = .slice none 0 0 → (Res.need (0 < l.length) (finEq op false)).Is v ob → Gv P (do eqGuard op T ox oy cx cy; Go.binOp op T cx cy) s nid v ob := by
  intro t l e hu hx hy h
  obtain ⟨hpos, h⟩ := h
  obtain ⟨ad, cap, rfl, _, hm⟩ := hx
  obtain ⟨b, o, rfl, _⟩ := hm (List.length_pos_iff.1 hpos)
  subst hy
  exact fin_Gv hok (sliceEq_run 9999 T e hu (some ⟨b, o, none⟩) _ _ s.w) ⟨rfl, rfl⟩ rfl h
 split at h
 ·rename_i e hk
  obtain ⟨ti, hl, hk⟩ := kind_get hk
  have hu : P.underlying T = some (.slice e) := by
   obtain ⟨d, hd, hf⟩ := (tb_und hT hl).und
   rw [hk] at hf
   cases d <;> simp only [TK.fits] at hf <;> first
    | (cases hf; done)
    | (rw [Nat.eq_of_beq_eq_true hf]; exact hd)
  split at h
  ·simp only [R] at hy
   split at h
   ·simp only [R] at hx
    subst hx hy
    exact fin_Gv hok (sliceEq_run 9999 T e hu none 0 0 s.w) ⟨rfl, rfl⟩ rfl h
   ·simp only [R] at hx
    exact lst hu hx hy h
   ·simp only [R] at hx
    exact lst hu hx.1 hy h
   ·exact h.elim
  ·exact h.elim
 ·rename_i e hk
  obtain ⟨ti, hl, hk⟩ := kind_get hk
  obtain ⟨e', he⟩ := ptr_und hT hl hk
  split at h
  ·simp only [R] at hy
   subst hy
   split at h
   ·simp only [R] at hx
    obtain ⟨b, o, rfl, _⟩ := hx
    exact fin_Gv hok (ptrEq_run 9999 T e' he (some ⟨b, o, none⟩) s.w) ⟨rfl, rfl⟩ rfl h
   ·simp only [R] at hx
    obtain ⟨_, b, rfl, _⟩ := hx
    exact fin_Gv hok (ptrEq_run 9999 T e' he (some ⟨b, _, none⟩) s.w) ⟨rfl, rfl⟩ rfl h
   ·simp only [R] at hx
    subst hx
    exact fin_Gv hok (ptrEq_run 9999 T e' he (some ⟨_, _, none⟩) s.w) ⟨rfl, rfl⟩ rfl h
   ·exact h.elim
  ·exact h.elim
 ·rename_i hk
  obtain ⟨ti, hl, hk⟩ := kind_get hk
  obtain ⟨a, b, c, he⟩ := fn_und hT hl hk
  split at h
  ·simp only [R] at hy
   subst hy
   split at h
   ·simp only [R] at hx
    subst hx
    exact fin_Gv hok (fnEq_run 9999 T he s.w).1 ⟨rfl, rfl⟩ rfl h
   ·obtain ⟨xs, ys, rfl, _⟩ := hx_fn hx
    exact fin_Gv hok ((fnEq_run 9999 T he s.w).2 _ _ _) ⟨rfl, rfl⟩ rfl h
   ·exact h.elim
  ·exact h.elim
 ·rename_i hk
  obtain ⟨ti, hl, hk⟩ := kind_get hk
  obtain ⟨a, he⟩ := ifc_und hT hl hk
  split at h
  ·simp only [R] at hy
   subst hy
   split at h
   ·simp only [R] at hx
    obtain ⟨u, rfl, _⟩ := hx
    exact fin_Gv hok (ifcEq_run 9999 T he s.w _ _) ⟨rfl, rfl⟩ rfl h
   ·exact h.elim
  ·exact h.elim
 ·exact h.elim
theorem bin_Gv (hT : TbOk P tb) {s : St} (hok : Ok s) {nid : Nat} {op : BinOp} {T : TypeId} {ox oy : Operand} {x y : AV} {cx cy : Value} (hx : R s x cx) (hy : R s y cy) {v : AV} {ob : Option AObj} (h : (pBin tb op T x y).Is v ob) :
  Gv P (do eqGuard op T ox oy cx cy; Go.binOp op T cx cy) s nid v ob := by
 have h' := h
 unfold pBin at h
 split at h
 ·simp only [R] at hx hy
  subst hx hy
  exact intBin_Gv hok h'
 ·simp only [R] at hx hy
  subst hx hy
  exact strBin_Gv hok h'
 ·simp only [R] at hx hy
  subst hx hy
  rename_i a b
  split at h
  ·rename_i hk
   obtain ⟨ti, hl, hk⟩ := kind_get hk
   obtain ⟨rfl, rfl⟩ := h
   have := eql_run (P := P) (s := s) (T := T) (cx := .bool a) (cy := .bool b) (b := a == b) (run_equalIn_bool' s.w 9999 T a b (bool_und hT hl hk)) ⟨rfl, rfl⟩
   exact bin_Gv_of hok rfl this.1 (by simp only [R])
  ·rename_i hk
   obtain ⟨ti, hl, hk⟩ := kind_get hk
   obtain ⟨rfl, rfl⟩ := h
   have := eql_run (P := P) (s := s) (T := T) (cx := .bool a) (cy := .bool b) (b := a == b) (run_equalIn_bool' s.w 9999 T a b (bool_und hT hl hk)) ⟨rfl, rfl⟩
   exact bin_Gv_of hok rfl this.2 (by simp only [R])
  ·exact h.elim
 ·simp only [R] at hx hy
  subst hx hy
  have hq : ∀ e, P.underlying T = some (.pointer e) → (Op.equal T (.pointer none) (.pointer none)).run P s.w = .ok true s.w := fun e he => ptrEq_run 9999 T e he none s.w
  split at h
  ·rename_i hk
   obtain ⟨ti, hl, hk⟩ := kind_get hk
   obtain ⟨e, he⟩ := ptr_und hT hl hk
   obtain ⟨rfl, rfl⟩ := h
   have := eql_run (P := P) (s := s) (T := T) (hq e he) ⟨rfl, rfl⟩
   exact bin_Gv_of hok rfl this.1 (by simp only [R])
  ·rename_i hk
   obtain ⟨ti, hl, hk⟩ := kind_get hk
   obtain ⟨e, he⟩ := ptr_und hT hl hk
   obtain ⟨rfl, rfl⟩ := h
   have := eql_run (P := P) (s := s) (T := T) (hq e he) ⟨rfl, rfl⟩
   exact bin_Gv_of hok rfl this.2 (by simp only [R]; rfl)
  ·exact h.elim
 ·rename_i id off
  simp only [R] at hx hy
  subst hy
  obtain ⟨_, b, rfl, _⟩ := hx
  have hq : ∀ e (ad : Addr), P.underlying T = some (.pointer e) → (Op.equal T (.pointer (some ad)) (.pointer none)).run P s.w = .ok false s.w := fun e ad he => ptrEq_run 9999 T e he (some ad) s.w
  split at h
  ·rename_i hk
   obtain ⟨ti, hl, hk⟩ := kind_get hk
   obtain ⟨e, he⟩ := ptr_und hT hl hk
   obtain ⟨rfl, rfl⟩ := h
   have := eql_run (P := P) (s := s) (T := T) (hq e ⟨b, off, none⟩ he) ⟨rfl, rfl⟩
   exact bin_Gv_of hok rfl this.1 (by simp only [R])
  ·rename_i hk
   obtain ⟨ti, hl, hk⟩ := kind_get hk
   obtain ⟨e, he⟩ := ptr_und hT hl hk
   obtain ⟨rfl, rfl⟩ := h
   have := eql_run (P := P) (s := s) (T := T) (hq e ⟨b, off, none⟩ he) ⟨rfl, rfl⟩
   exact bin_Gv_of hok rfl this.2 (by simp only [R]; rfl)
  ·exact h.elim
 ·rename_i xs ys
  split at h
  ·exact h.elim
  ·rename_i ti hl
   split at h
   ·rename_i fs hc
    split at h
    ·rename_i a b hf ha hb
     simp only [R] at hx hy
     obtain ⟨vs, rfl, hx, hx1⟩ := hx
     obtain ⟨us, rfl, hy, hy1⟩ := hy
     obtain ⟨hsz, hck⟩ := (tb_und hT hl).code _ hc
     have enc : ∀ (zs : List AV) (ws : List Value) (z : (Ty.st fs).El), dec (.st fs) zs = some z → RL s zs ws → (∀ u ∈ ws, u.oneCell' = true) → VT s (.st fs) z (.agg ws.toArray) := by
      intro zs ws z hz hr h1
      simp only [VT]
      refine ⟨_, rfl, ?_⟩
      have := dec_RT (s := s) (.st fs) zs z (fun j => ws.toArray[j]?) hz (RC_of_RL hr h1 (fun j v hv => by simpa using hv))
      simpa only [RT] using this
     have hq : (Op.equal T (.agg vs.toArray) (.agg us.toArray)).run P s.w = .ok (eqT (.st fs) a b) s.w :=
      equalIn_run 50 10000 T (.st fs) a b _ _ (by omega) hck hf (enc _ _ _ ha hx hx1) (enc _ _ _ hb hy hy1)
     obtain ⟨gs, _, _, hg, _⟩ := chk_st hck
     have hgd := run_eqGuard_agg (P := P) s.w op T ox oy vs.toArray us.toArray hg
     have := eql_run (P := P) (s := s) (T := T) hq ⟨rfl, rfl⟩
     split at h
     ·obtain ⟨rfl, rfl⟩ := h
      exact Gv.same hok (by rw [Sem.run_bind, hgd]; exact this.1) (by simp only [R])
     ·obtain ⟨rfl, rfl⟩ := h
      exact Gv.same hok (by rw [Sem.run_bind, hgd]; exact this.2) (by simp only [R])
     ·exact h.elim
    ·exact h.elim
   ·exact h.elim
 ·exact nilEq_Gv hT hok hx hy h

/-! ### Conversions, interfaces -/
theorem un_Gv {s : St} (hok : Ok s) {nid : Nat} {op : UnOp} {x : AV} {cx : Value} (hx : R s x cx) {v : AV} {ob : Option AObj} (h : (pUn op x).Is v ob) : Gv P (Op.unary op cx) s nid v ob := by
 unfold pUn at h
 split at h
 ·simp only [R] at hx
  subst hx
  obtain ⟨rfl, rfl⟩ := h
  exact Gv.same hok (by simp [Op.unary]; rfl) (by simp only [R])
 ·simp only [R] at hx
  subst hx
  obtain ⟨hin, rfl, rfl⟩ := h
  rename_i k n
  exact Gv.same (cv := .int k (0 - n)) hok (by simp only [Op.unary, Op.intArith, wrap_in hin, Sem.run_pure]) (by simp only [R])
 ·exact h.elim
theorem iface_Gv (hT : TbOk P tb) {s : St} (hok : Ok s) {nid : Nat} {T : TypeId} {x : AV} {cx : Value} (hx : R s x cx) {v : AV} {ob : Option AObj} (h : (pIface tb T x).Is v ob) : Gv P (Instr.makeInterface T cx) s nid v ob := by
 unfold pIface at h
 split at h
 ·exact h.elim
 ·rename_i ti hl
  obtain ⟨d, hd, hf⟩ := (tb_und hT hl).und
  split at h
  ·exact h.elim
  ·exact h.elim
  ·exact h.elim
  ·rename_i hk1 hk2 hk3
   obtain ⟨rfl, rfl⟩ := h
   refine Gv.same (cv := .iface T cx) hok ?_ (by simp only [R]; exact ⟨cx, rfl, hx⟩)
   simp only [Instr.makeInterface, Sem.run_bind, run_underlying hd, Result.andThen_ok]
   cases d <;> first
    | rfl
    | (exfalso; cases hki : ti.kind <;> rw [hki] at hf <;> simp [TK.fits] at hf; first | exact hk1 hki | exact hk2 hki | exact hk3 hki)
theorem extract_Gv {s : St} (hok : Ok s) {nid : Nat} {x : AV} {cx : Value} (hx : R s x cx) {i : Nat} {v : AV} {ob : Option AObj} (h : (pExtract x i).Is v ob) : Gv P (Instr.extract cx i) s nid v ob := by
 unfold pExtract at h
 split at h
 ·obtain ⟨h1, rfl⟩ := okO_Is h
  simp only [R] at hx
  obtain ⟨vs, rfl, hl⟩ := hx
  obtain ⟨u, hu, hr⟩ := RL_get hl i v h1
  exact Gv.same (cv := u) hok (by simp [Instr.extract, hu]) hr
 ·exact h.elim
theorem len_Gv (hT : TbOk P tb) {s : St} (hok : Ok s) {nid : Nat} {T ty : TypeId} {x : AV} {cx : Value} (hx : R s x cx) {v : AV} {ob : Option AObj} (h : (pLen tb T x).Is v ob) : Gv P (Builtin.len_ #[T] ty #[cx]) s nid v ob := by
 unfold pLen at h
 split at h
 ·exact h.elim
 ·rename_i ti hl
  have sl : ∀ e a n c, ti.kind = .sl e → cx = .slice a n c → (Builtin.len_ #[T] ty #[cx]).run P s.w = .ok (.int .i64 n) s.w := by
   intro e a n c hk hc
   subst hc
   simp [Builtin.len_, run_underlying (slice_und hT hl hk), goInt]
  split at h
  ·rename_i str hk
   simp only [R] at hx
   subst hx
   obtain ⟨rfl, rfl⟩ := h
   exact Gv.same (cv := .int .i64 str.size) hok (by simp [Builtin.len_, run_underlying (str_und hT hl hk), goInt]) (by simp only [R])
  ·rename_i e t l hk
   obtain ⟨rfl, rfl⟩ := h
   simp only [R] at hx
   obtain ⟨a, cap, rfl, _⟩ := hx
   exact Gv.same hok (sl _ _ _ _ hk rfl) (by simp only [R])
  ·rename_i e t l hk
   obtain ⟨rfl, rfl⟩ := h
   simp only [R] at hx
   obtain ⟨⟨a, cap, rfl, _⟩, _⟩ := hx
   exact Gv.same hok (sl _ _ _ _ hk rfl) (by simp only [R])
  ·rename_i e id g n hk
   obtain ⟨rfl, rfl⟩ := h
   simp only [R] at hx
   obtain ⟨_, a, cap, rfl, _⟩ := hx
   exact Gv.same hok (sl _ _ _ _ hk rfl) (by simp only [R])
  ·rename_i e id g lo n hk
   obtain ⟨rfl, rfl⟩ := h
   simp only [R] at hx
   obtain ⟨_, a, cap, rfl, _⟩ := hx
   exact Gv.same hok (sl _ _ _ _ hk rfl) (by simp only [R])
  ·rename_i e id n c hk
   obtain ⟨rfl, rfl⟩ := h
   simp only [R] at hx
   obtain ⟨_, b, rfl, _⟩ := hx
   exact Gv.same hok (sl _ _ _ _ hk rfl) (by simp only [R])
  ·rename_i e hk
   obtain ⟨rfl, rfl⟩ := h
   simp only [R] at hx
   subst hx
   exact Gv.same hok (sl _ _ _ _ hk rfl) (by simp only [R]; rfl)
  ·exact h.elim
end
end Av
namespace Av
open Go
def RP (s : St) : List (Nat × AV) → List (Nat × Value) → Prop
 | [], ws => ws = []
 | p :: ps, ws => ∃ v ws', ws = (p.1, v) :: ws' ∧ R s p.2 v ∧ RP s ps ws'
theorem RP_map {s : St} {ρ : Operand → AV} {ev : Operand → Value} (h : ∀ x, R s (ρ x) (ev x)) : ∀ (l : List (Nat × Operand)), RP s (l.map fun p => (p.1, ρ p.2)) (l.map fun p => (p.1, ev p.2))
 | [] => rfl
 | p :: l => ⟨ev p.2, _, rfl, h p.2, RP_map h l⟩

theorem splice_fold (z : Array Value) (off : Nat) (l : List Value) (h : off + l.length ≤ z.size) :
  (l.zipIdx.foldl (fun cs (x : Value × Nat) => cs.setIfInBounds (off + x.2) x.1) z).toList = z.toList.take off ++ (l ++ z.toList.drop (off + l.length)) := by
 obtain ⟨h1, h2⟩ := Great.foldl_set off l 0 z
 apply List.ext_getElem?
 intro k
 rw [Array.getElem?_toList, h2 k]
 simp only [Nat.add_zero]
 by_cases a : off ≤ k
 ·by_cases b : k < off + l.length
  ·rw [if_pos ⟨a, b, by omega⟩, List.getElem?_append_right (by simp; omega), List.getElem?_append_left (by simp; omega)]
   congr 1
   simp
   omega
  ·rw [if_neg (by omega), List.getElem?_append_right (by simp; omega), List.getElem?_append_right (by simp; omega), List.getElem?_drop, Array.getElem?_toList]
   congr 1
   simp
   omega
 ·rw [if_neg (by omega), List.getElem?_append_left (by simp; omega), List.getElem?_take, if_pos (by omega), Array.getElem?_toList]
section
variable {P : Program} {tb : Tb}
theorem fillA_fill {s : St} {place : Nat → Option (Nat × Nat)} {fs : List (TypeId × Nat)} (hp : ∀ i ft off ti, fs[i]? = some (ft, off) → lk tb ft = some ti → place i = some (off, ti.size)) :
  ∀ (ps : List (Nat × AV)) (ws : List (Nat × Value)) (z : List AV) (zc : Array Value) (cs : List AV), fillA tb fs z ps = some cs → RP s ps ws → RL s z zc.toList → (∀ u ∈ zc.toList, u.oneCell' = true) →
   ∃ cells, Instr.fill place zc ws = some cells ∧ RL s cs cells.toList ∧ ∀ u ∈ cells.toList, u.oneCell' = true
 | [], ws, z, zc, cs, h, hr, hz, h1 => by
  simp only [fillA] at h
  cases h
  simp only [RP] at hr
  subst hr
  exact ⟨zc, rfl, hz, h1⟩
 | (i, x) :: ps, ws, z, zc, cs, h, hr, hz, h1 => by
  simp only [RP] at hr
  obtain ⟨v, ws', rfl, hx, hr⟩ := hr
  simp only [fillA] at h
  split at h
  ·cases h
  ·rename_i ft off hi
   split at h
   ·rename_i ti new hl hc
    cases hb : (Nat.beq new.length ti.size && Nat.ble (off + new.length) z.length) with
    | false => rw [hb] at h; cases h
    | true =>
     rw [hb] at h
     simp only [Bool.and_eq_true] at hb
     have hsz := Nat.eq_of_beq_eq_true hb.1
     have hle := Nat.le_of_ble_eq_true hb.2
     obtain ⟨vs, hv, hn, hn1⟩ := cellsOf_R hc (R_tyNil hx)
     have hlen := RL_vals hn
     have hzl := RL_vals hz
     have hzs : zc.toList.length = zc.size := by simp
     have hfold := splice_fold zc off vs (by omega)
     have hrl : RL s (splice z off new) (zc.toList.take off ++ (vs ++ zc.toList.drop (off + vs.length))) := by
      unfold splice
      rw [hlen]
      exact RL_append (RL_take _ hz) (RL_append hn (RL_drop _ hz))
     have hone : ∀ u ∈ (zc.toList.take off ++ (vs ++ zc.toList.drop (off + vs.length))), u.oneCell' = true := by
      intro u hu
      rcases List.mem_append.1 hu with hu | hu
      ·exact h1 u (List.mem_of_mem_take hu)
      ·rcases List.mem_append.1 hu with hu | hu
       ·exact hn1 u hu
       ·exact h1 u (List.mem_of_mem_drop hu)
     rw [← hfold] at hrl hone
     obtain ⟨cells, h2, h3, h4⟩ := fillA_fill hp ps ws' _ _ cs h hr hrl hone
     refine ⟨cells, ?_, h3, h4⟩
     have hvs : v.cells.size = ti.size := by rw [hv]; simp; omega
     have hns : v.cells.size = vs.length := by rw [hv]; simp
     simp only [Instr.fill, hp i ft off ti hi hl]
     rw [if_neg (by
      simp only [Bool.or_eq_true, decide_eq_true_eq, ne_eq]
      rw [hvs]
      simp
      omega)]
     have hz2 : v.cells.zipIdx.foldl (fun cs (x : Value × Nat) => cs.setIfInBounds (off + x.2) x.1) zc = vs.zipIdx.foldl (fun cs (x : Value × Nat) => cs.setIfInBounds (off + x.2) x.1) zc := by
      rw [hv, ← Array.foldl_toList]
      simp
     show Instr.fill place (v.cells.zipIdx.foldl (fun cs (x : Value × Nat) => cs.setIfInBounds (off + x.2) x.1) zc) ws' = some cells
     rw [hz2]
     exact h2
   ·cases h
theorem places_of {gs : List Field} : ∀ {fs : List (TypeId × Nat)}, fs = gs.map (fun f => (f.type, f.offset)) → (∀ p ∈ fs, ∃ i, P.info? p.1 = some i) →
  ∃ pl, gs.mapM (fun f => (P.info? f.type).map fun i => (f.offset, i.size)) = some pl ∧ ∀ (i : Nat) (ft : TypeId) (off : Nat), fs[i]? = some (ft, off) → pl[i]? = some (off, P.cellsOf ft) := by
 induction gs with
 | nil =>
  intro fs h _
  subst h
  exact ⟨[], by simp, by simp⟩
 | cons g gs ih =>
  intro fs h hi
  subst h
  obtain ⟨i0, h0⟩ := hi (g.type, g.offset) (by simp)
  obtain ⟨pl, h1, h2⟩ := ih rfl (fun p hp => hi p (by simp only [List.map_cons, List.mem_cons]; exact .inr hp))
  refine ⟨(g.offset, i0.size) :: pl, by simp [List.mapM_cons, h0, h1], ?_⟩
  intro i ft off hq
  cases i with
  | zero =>
   simp only [List.map_cons, List.getElem?_cons_zero, Option.some.injEq, Prod.mk.injEq] at hq
   obtain ⟨rfl, rfl⟩ := hq
   simp [Program.cellsOf, h0]
  | succ i => simpa using h2 i ft off (by simpa using hq)
theorem cellsOf_lk (hT : TbOk P tb) {T : TypeId} {ti : TI} (h : lk tb T = some ti) : P.cellsOf T = ti.size := by
 obtain ⟨i, z, hi, hs, _⟩ := (tb_und hT h).info
 simp [Program.cellsOf, hi, hs]
theorem build_Gv (hT : TbOk P tb) {s : St} (hok : Ok s) {nid : Nat} {T : TypeId} {ps : List (Nat × AV)} {ws : Array (Nat × Value)} (hp : RP s ps ws.toList) {v : AV} {ob : Option AObj} (h : (pBuild tb T ps).Is v ob) : Gv P (Instr.build T ws) s nid v ob := by
 unfold pBuild at h
 split at h
 ·rename_i ti hl
  split at h
  ·rename_i fs hk
   split at h
   ·rename_i cs hc
    obtain ⟨rfl, rfl⟩ := h
    obtain ⟨gs, hu, he⟩ := struct_und hT hl hk
    obtain ⟨i, z, hi, hs, _, hz, hzf⟩ := (tb_und hT hl).info
    obtain ⟨pl, hpl, hpi⟩ := places_of (P := P) he ((tb_und hT hl).flds fs hk)
    obtain ⟨hz1, hz2⟩ := zf_RL (s := s) hzf
    obtain ⟨cells, h1, h2, h3⟩ := fillA_fill (tb := tb) (s := s) (place := fun i => pl.toArray[i]?) (fs := fs) (fun i ft off ti' hi' hl' => by
     have := hpi i ft off hi'
     rw [cellsOf_lk hT hl'] at this
     simpa using this) ps ws.toList ti.zero z.cells cs hc hp hz1 hz2
    refine Gv.same (cv := .agg cells) hok (run_build s.w T ws cells ?_) ?_
    ·simp only [Program.built, hi, hu, hz, hpl]
     exact h1
    ·simp only [R]
     exact ⟨cells.toList, by simp, h2, h3⟩
   ·exact h.elim
  ·rename_i n e hk
   split at h
   ·rename_i te hle
    split at h
    ·rename_i cs hc
     obtain ⟨rfl, rfl⟩ := h
     have hu := array_und hT hl hk
     obtain ⟨i, z, hi, hs, _, hz, hzf⟩ := (tb_und hT hl).info
     obtain ⟨ie, _, hie, hse, _⟩ := (tb_und hT hle).info
     obtain ⟨hz1, hz2⟩ := zf_RL (s := s) hzf
     obtain ⟨cells, h1, h2, h3⟩ := fillA_fill (tb := tb) (s := s) (place := fun i => some (i * ie.size, ie.size)) (fs := arFs e te.size n 0) (fun i ft off ti' hi' hl' => by
      obtain ⟨rfl, rfl⟩ := arFs_at hi'
      rw [hle] at hl'
      cases hl'
      rw [hse, Nat.zero_add]) ps ws.toList ti.zero z.cells cs hc hp hz1 hz2
     refine Gv.same (cv := .agg cells) hok (run_build s.w T ws cells ?_) ?_
     ·simp only [Program.built, hi, hu, hz, hie]
      exact h1
     ·simp only [R]
      exact ⟨cells.toList, by simp, h2, h3⟩
    ·exact h.elim
   ·exact h.elim
  ·exact h.elim
 ·exact h.elim
/-! ### New rows -/
theorem newArr_Gv {e : Sem Value} {s : St} (hok : Ok s) {nid : Nat} (hfr : Free s.h nid) {E : TypeId} {t : Ty} {l : List t.El} {n : Nat} {xs : List Value} {w' : World} (hn : n ≤ l.length)
  (hr : e.run P s.w = .ok (.slice (some ⟨s.w.heap.size, 0, none⟩) n l.length) w') (hw : Grew s.w w') (hown : w'.ownsRow 0 E t.size (.slice (some ⟨s.w.heap.size, 0, none⟩) l.length l.length) l.length xs)
  (h1 : ∀ u ∈ xs, u.oneCell' = true) (hx : ∀ i x, l[i]? = some x → RT s t x (fun j => xs[i * t.size + j]?)) : ∀ (fl : Bool), Gv P e s nid (.own nid 0 n) (some (.arr E t l fl 0)) := by
 intro fl
 have hb : ∀ b, blkOf (.slice (some ⟨s.w.heap.size, 0, none⟩) l.length l.length) = some b → s.w.heap.size ≤ b := by
  intro b hb; cases hb; exact Nat.le_refl _
 have hst := St.new_step (s := s) (nid := nid) hfr (ob := .arr E t l fl 0) hw hb
 refine ⟨_, s.new nid (.arr E t l fl 0) (.slice (some ⟨s.w.heap.size, 0, none⟩) l.length l.length) w', hr, hst, St.new_ok hok hfr hw hb ?_, ?_, rfl⟩
 ·refine ⟨xs, ?_, h1, fun i x hi => RT_mono hst t x _ _ (fun _ _ hv => hv) (hx i x hi), fun _ => ⟨some ⟨s.w.heap.size, 0, none⟩, by simp only [St.new, upd_same]⟩⟩
  simp only [St.new, upd_same]
  exact hown
 ·simp only [R]
  refine ⟨by simp only [St.new, kn, put_same hfr], _, _, rfl, fun T t' l' f' g0 hc => ?_⟩
  simp only [St.new, put_same hfr] at hc
  cases hc
  exact ⟨Nat.le_refl _, fun _ => ⟨hn, l.length, by simp only [St.new, upd_same]⟩⟩
theorem decList_spec {s : St} {t : Ty} : ∀ (ps : List (Nat × AV)) (k : Nat) (l : List t.El) (ws : List (Nat × Value)), decList t k ps = some l → RP s ps ws →
  ∃ vs : List Value, ws = (vs.zipIdx k).map (fun x => (x.2, x.1)) ∧ vs.length = l.length ∧ ps.length = l.length ∧ (∀ v ∈ vs, v.cells.size = t.size) ∧ (∀ u ∈ vs.flatMap (fun v => v.cells.toList), u.oneCell' = true) ∧
   ∀ i x, l[i]? = some x → RT s t x (fun j => (vs.flatMap fun v => v.cells.toList)[i * t.size + j]?)
 | [], k, l, ws, h, hr => by
  simp only [decList] at h
  cases h
  simp only [RP] at hr
  subst hr
  exact ⟨[], rfl, rfl, rfl, by simp, by simp, by simp⟩
 | (i, x) :: ps, k, l, ws, h, hr => by
  simp only [RP] at hr
  obtain ⟨v, ws', rfl, hx, hr⟩ := hr
  simp only [decList] at h
  cases hb : Nat.beq i k with
  | false => rw [hb] at h; cases h
  | true =>
   rw [hb] at h
   have := Nat.eq_of_beq_eq_true hb
   subst this
   simp only [cond_true] at h
   split at h
   ·rename_i cs hc
    split at h
    ·rename_i y ys hy hys
     cases h
     obtain ⟨vs, h1, h2, h3, h4, h5, h6⟩ := decList_spec ps (i + 1) ys ws' hys hr
     obtain ⟨us, hv, hu, hu1⟩ := cellsOf_R hc hx
     have hsz := dec_size t cs y hy
     have hul := RL_vals hu
     have hvs : v.cells.toList = us := by rw [hv]
     refine ⟨v :: vs, ?_, by simp [h2], by simp [h3], ?_, ?_, ?_⟩
     ·rw [h1]; simp [List.zipIdx_cons]
     ·intro v' hv'
      rcases List.mem_cons.1 hv' with rfl | hv'
      ·rw [hv]; simp; omega
      ·exact h4 v' hv'
     ·intro u hu'
      simp only [List.flatMap_cons, List.mem_append] at hu'
      rcases hu' with hu' | hu'
      ·rw [hvs] at hu'; exact hu1 u hu'
      ·exact h5 u hu'
     ·intro j z hz
      cases j with
      | zero =>
       simp only [List.getElem?_cons_zero, Option.some.injEq] at hz
       subst hz
       have hd := dec_RT (s := s) t cs y (fun j => us[j]?) hy (RC_of_RL hu hu1 (fun j v hv => hv))
       refine RT_mono (Step.refl s) _ _ _ _ ?_ hd
       intro j v' hv'
       simp only [Nat.zero_mul, Nat.zero_add, List.flatMap_cons, hvs]
       have : j < us.length := (List.getElem?_eq_some_iff.1 hv').1
       rw [List.getElem?_append_left this]
       exact hv'
      | succ j =>
       simp only [List.getElem?_cons_succ] at hz
       refine RT_mono (Step.refl s) _ _ _ _ ?_ (h6 j z hz)
       intro m v' hv'
       simp only [List.flatMap_cons, hvs]
       rw [List.getElem?_append_right (by rw [Nat.add_mul]; omega)]
       rw [← hv']
       congr 1
       rw [Nat.add_mul]
       omega
    ·cases h
   ·cases h
theorem zrow_RL {s : St} {as : List AV} {vs : List Value} (h : RL s as vs) (h1 : ∀ u ∈ vs, u.oneCell' = true) : ∀ n, RL s (zrow as n) (zrow vs n) ∧ ∀ u ∈ zrow vs n, u.oneCell' = true
 | 0 => by simp [zrow, RL]
 | n + 1 => by
  obtain ⟨h2, h3⟩ := zrow_RL h h1 n
  refine ⟨RL_append h h2, fun u hu => ?_⟩
  rcases List.mem_append.1 hu with hu | hu
  ·exact h1 u hu
  ·exact h3 u hu
theorem zrow_range (vs : List Value) (hk : 0 < vs.length) : ∀ n, (List.range (n * vs.length)).map (fun j => vs[j % vs.length]!) = zrow vs n
 | 0 => by simp [zrow]
 | n + 1 => by
  rw [Nat.add_mul, Nat.one_mul, Nat.add_comm, List.range_add, List.map_append, List.map_map, zrow]
  congr 1
  ·refine List.ext_getElem (by simp) fun i h1 h2 => ?_
   simp only [List.getElem_map, List.getElem_range, Nat.mod_eq_of_lt h2]
   exact getElem!_pos vs i h2
  ·rw [← zrow_range vs hk n]
   refine List.map_congr_left fun j _ => ?_
   simp
theorem newCsl_Gv {e : Sem Value} {s : St} (hok : Ok s) {nid : Nat} (hf : Free s.h nid) {T : TypeId} {cs : List AV} {n c : Nat} {vs : List Value} (hl : RL s cs vs) (h1 : ∀ u ∈ vs, u.oneCell' = true)
  (hr : e.run P s.w = .ok (.slice (some ⟨s.w.heap.size, 0, none⟩) n c) (s.w.alloc (.cells vs.toArray T))) : Gv P e s nid (.csl nid n c) (some (.cells T cs)) := by
 have hb : ∀ b, blkOf (.pointer (some ⟨s.w.heap.size, 0, none⟩)) = some b → s.w.heap.size ≤ b := by
  intro b hb; cases hb; exact Nat.le_refl _
 have hg := Grew.alloc s.w (.cells vs.toArray T)
 have hst := St.new_step (s := s) (nid := nid) hf (ob := .cells T cs) (v := .pointer (some ⟨s.w.heap.size, 0, none⟩)) hg hb
 refine ⟨_, s.new nid (.cells T cs) (.pointer (some ⟨s.w.heap.size, 0, none⟩)) _, hr, hst, St.new_ok hok hf hg hb ?_, ?_, rfl⟩
 ·refine ⟨s.w.heap.size, vs, [], by simp only [St.new, upd_same], ?_, RL_mono hst cs vs hl, h1⟩
  show (s.w.heap.push (.cells vs.toArray T))[s.w.heap.size]? = _
  simp
 ·simp only [R]
  refine ⟨?_, s.w.heap.size, rfl, fun T' cs' hc => by simp only [St.new, upd_same]⟩
  simp only [St.new, kn, put_same hf]
theorem buildSlice_Gv (hT : TbOk P tb) {s : St} (hok : Ok s) {nid : Nat} (hf : Free s.h nid) {T : TypeId} {n : Nat} {ps : List (Nat × AV)} {ws : Array (Nat × Value)} (hp : RP s ps ws.toList) {v : AV} {ob : Option AObj} (h : (pBuildSlice tb nid T n ps).Is v ob) :
  Gv P (Instr.buildSlice T n ws) s nid v ob := by
 unfold pBuildSlice at h
 split at h
 ·rename_i ti hl
  split at h
  ·rename_i e hk
   split at h
   ·rename_i te he
    split at h
    ·rename_i t hc
     split at h
     ·rename_i l hd
      cases hb : (Nat.beq n ps.length && Nat.ble (n * te.size) 16777216) with
      | false => rw [hb] at h; exact h.elim
      | true =>
       rw [hb] at h
       obtain ⟨rfl, rfl⟩ := h
       simp only [Bool.and_eq_true] at hb
       have hn := Nat.eq_of_beq_eq_true hb.1
       have hle := Nat.le_of_ble_eq_true hb.2
       have hu := slice_und hT hl hk
       obtain ⟨vs, h1, h2, h3, h4, h5, h6⟩ := decList_spec ps 0 l ws.toList hd hp
       obtain ⟨ie, z, hie, hs, _, hz, hzf⟩ := (tb_und hT he).info
       have hsz := ((tb_und hT he).code t hc).1
       have hpos := (tb_und hT he).pos
       obtain rfl : n = l.length := by omega
       have hws : ws = ((vs.zipIdx 0).map (fun x => (x.2, x.1))).toArray := by rw [← h1]
       have hcells : (vs.flatMap fun v => v.cells.toList).length = l.length * t.size := by
        rw [← h2]
        clear h1 h2 h5 h6 hws
        induction vs with
        | nil => simp
        | cons v vs ih =>
         simp only [List.flatMap_cons, List.length_append, List.length_cons]
         rw [ih (fun v hv => h4 v (by simp [hv])), Nat.add_mul]
         have := h4 v (by simp)
         simp
         omega
       refine newArr_Gv hok hf (Nat.le_refl _) (w' := s.w.alloc (.cells (vs.flatMap fun v => v.cells.toList).toArray e)) (xs := vs.flatMap fun v => v.cells.toList) ?_ (Grew.alloc _ _) ?_ h5 h6 false
       ·by_cases h0 : l.length * ie.size = 0
        ·have hl0 : l.length = 0 := by
          rcases Nat.mul_eq_zero.1 h0 with h | h
          ·exact h
          ·omega
         have hv0 : vs = [] := List.eq_nil_of_length_eq_zero (by omega)
         subst hv0
         subst hws
         simp [Instr.buildSlice, run_underlying hu, Go.sizeOf, typeInfo, hie, hl0, Instr.fill, newRow, Array.range_zero']
        ·refine run_buildSlice s.w T e l.length ws _ ie z hu hie hz (by rw [hs]; omega) h0 ?_
         rw [h1]
         have := Great.fill_whole (s := ie.size) (by omega) vs ((Array.range (l.length * ie.size)).map (z.cells[· % z.cells.size]!)) (fun v hv => by rw [h4 v hv, hsz, hs]) (by simp [h2])
         exact this
       ·have := World.ownsRow_lit (base := 0) (e := e) (size := t.size) s.w (vs.flatMap fun v => v.cells.toList).toArray l.length (Nat.zero_le _) (by
         simp only [maxLen]
         have : l.length * 1 ≤ l.length * te.size := Nat.mul_le_mul_left _ hpos
         omega) (by simpa using hcells)
        simpa using this
     ·exact h.elim
    ·split at h
     ·rename_i cs hc
      cases hb : ((Nat.beq te.zero.length te.size && Nat.ble 1 n) && Nat.ble (n * te.size) 16777216) with
      | false => rw [hb] at h; exact h.elim
      | true =>
       rw [hb] at h
       obtain ⟨rfl, rfl⟩ := h
       simp only [Bool.and_eq_true] at hb
       have hzl := Nat.eq_of_beq_eq_true hb.1.1
       have hn := Nat.le_of_ble_eq_true hb.1.2
       have hle := Nat.le_of_ble_eq_true hb.2
       have hu := slice_und hT hl hk
       obtain ⟨ie, z, hie, hs, _, hz, hzf⟩ := (tb_und hT he).info
       have hpos := (tb_und hT he).pos
       obtain ⟨hz1, hz2⟩ := zf_RL (s := s) hzf
       obtain ⟨hz3, hz4⟩ := zrow_RL hz1 hz2 n
       have hzs : z.cells.toList.length = ie.size := by have := RL_vals hz1; omega
       have hrow : ((Array.range (n * ie.size)).map (z.cells[· % z.cells.size]!)).toList = zrow z.cells.toList n := by
        rw [← zrow_range z.cells.toList (by omega) n, hzs]
        simp [← hzs]
        intro a _
        rw [getElem!_def]
        cases z.cells[a % z.cells.size]? <;> rfl
       obtain ⟨cells, h1, h2, h3⟩ := fillA_fill (tb := tb) (s := s) (place := fun i => some (i * ie.size, ie.size)) (fs := arFs e te.size n 0) (fun i ft off ti' hi' hl' => by
        obtain ⟨rfl, rfl⟩ := arFs_at hi'
        rw [he] at hl'
        cases hl'
        rw [hs, Nat.zero_add]) ps ws.toList (zrow te.zero n) ((Array.range (n * ie.size)).map (z.cells[· % z.cells.size]!)) cs hc hp (by rw [hrow]; exact hz3) (by rw [hrow]; exact hz4)
       have h0 : ¬ n * ie.size = 0 := by
        intro h
        rcases Nat.mul_eq_zero.1 h with h | h <;> omega
       exact newCsl_Gv hok hf (vs := cells.toList) h2 h3 (run_buildSlice s.w T e n ws cells ie z hu hie hz (by rw [hs]; omega) h0 h1)
     ·exact h.elim
   ·exact h.elim
  ·exact h.elim
 ·exact h.elim
/-! ### make -/
theorem madeCells_get (z : Array Value) (n j : Nat) (h : j < n) : (madeCells z n).toList[j]? = some z[j % z.size]! := by
 simp [madeCells, h]
theorem make_Gv (hT : TbOk P tb) {s : St} (hok : Ok s) {nid : Nat} (hf : Free s.h nid) {T : TypeId} {x y : AV} {cx cy : Value} (hx : R s x cx) (hy : R s y cy) {v : AV} {ob : Option AObj} (h : (pMake tb nid T x y).Is v ob) : Gv P (Instr.makeSlice T cx cy) s nid v ob := by
 unfold pMake at h
 split at h
 ·exact h.elim
 ·rename_i ti hl
  split at h
  ·rename_i e k n k' c hk
   split at h
   ·exact h.elim
   ·rename_i te he
    split at h
    ·exact h.elim
    ·rename_i t hc
     split at h
     ·exact h.elim
     ·rename_i z hz0
      obtain ⟨⟨h0, hnc, hbytes, h63⟩, rfl, rfl⟩ := h
      simp only [R] at hx hy
      subst hx hy
      have hu := slice_und hT hl hk
      obtain ⟨ie, zv, hie, hs, hby, hz, hzf⟩ := (tb_und hT he).info
      have hsz := ((tb_und hT he).code t hc).1
      have hpos := (tb_und hT he).pos
      obtain ⟨hz1, hz2⟩ := zf_RL (s := s) hzf
      have hzl := RL_vals hz1
      unfold zeroEl at hz0
      have hds := dec_size t te.zero z hz0
      have hzs : zv.cells.size = t.size := by
       have : zv.cells.toList.length = zv.cells.size := by simp
       omega
      have hr := run_make (P := P) s.w T e ie zv hu hie hz k k' n c h0 hnc (by rw [hby, Int.mul_comm]; omega) h63
      have hlen : (List.replicate c.toNat z).length = c.toNat := by simp
      refine newArr_Gv hok hf (l := List.replicate c.toNat z) (by rw [hlen]; omega) (xs := (madeCells zv.cells (c.toNat * ie.size)).toList) (by rw [hlen]; exact hr) (Grew.alloc _ _) ?_ ?_ ?_ true
      ·rw [hlen]
       exact World.ownsRow_lit s.w _ c.toNat (Nat.zero_le _) (by simp only [maxLen]; omega) (by rw [size_madeCells, hs, hsz])
      ·intro u hu'
       obtain ⟨j, hj, rfl⟩ := List.mem_iff_getElem.1 hu'
       have hj' : j < c.toNat * ie.size := by simpa [size_madeCells] using hj
       have := madeCells_get zv.cells (c.toNat * ie.size) j hj'
       rw [List.getElem?_eq_getElem hj] at this
       rw [Option.some.inj this]
       have hm : j % zv.cells.size < zv.cells.size := Nat.mod_lt _ (by omega)
       rw [getElem!_pos zv.cells (j % zv.cells.size) hm]
       exact hz2 _ (by simp)
      ·intro i x hi
       have hil : i < c.toNat := by
        have := (List.getElem?_eq_some_iff.1 hi).1
        simpa using this
       have hxz : z = x := by
        rw [List.getElem?_replicate, if_pos hil] at hi
        exact Option.some.inj hi
       subst hxz
       have hd := dec_RT (s := s) t te.zero z (fun j => zv.cells.toList[j]?) hz0 (RC_of_RL hz1 hz2 (fun j v hv => hv))
       refine RT_mono (Step.refl s) _ _ _ _ ?_ hd
       intro j v' hv'
       have hj : j < zv.cells.size := by
        have := (List.getElem?_eq_some_iff.1 hv').1
        simpa using this
       have hmul : i * t.size + j < c.toNat * ie.size := by
        have : (i + 1) * t.size ≤ c.toNat * t.size := Nat.mul_le_mul_right _ hil
        rw [Nat.add_mul] at this
        rw [hs, ← hsz]
        omega
       rw [madeCells_get _ _ _ hmul]
       have hmod : (i * t.size + j) % zv.cells.size = j := by
        rw [hzs, Nat.mul_comm, Nat.mul_add_mod]
        exact Nat.mod_eq_of_lt (by omega)
       rw [hmod, getElem!_pos zv.cells j hj]
       rw [Array.getElem?_toList, Array.getElem?_eq_getElem hj] at hv'
       exact hv'
  ·exact h.elim

/-! ### Functions, pointers -/
theorem RL_map {s : St} {ρ : Operand → AV} {ev : Operand → Value} (h : ∀ x, R s (ρ x) (ev x)) : ∀ (l : List Operand), RL s (l.map ρ) (l.map ev)
 | [] => by simp only [List.map_nil, RL]
 | x :: l => by simp only [List.map_cons, RL]; exact ⟨_, _, rfl, h x, RL_map h l⟩
theorem nilCheck_ok {s : St} {x : AV} {cx : Value} (hx : R s x cx) {v : AV} {ob : Option AObj} (h : (pNilCheck x).Is v ob) :
  v = x ∧ ob = none ∧ ((∃ a, cx = .pointer (some a)) ∨ (∃ f a b, cx = .func (.func f) a b) ∨ (∃ t y, cx = .iface t y)) := by
 unfold pNilCheck at h
 split at h
 ·obtain ⟨rfl, rfl⟩ := h
  simp only [R] at hx
  obtain ⟨_, b, rfl, _⟩ := hx
  exact ⟨rfl, rfl, .inl ⟨_, rfl⟩⟩
 ·obtain ⟨rfl, rfl⟩ := h
  simp only [R] at hx
  obtain ⟨_, b, rfl, _⟩ := hx
  exact ⟨rfl, rfl, .inl ⟨_, rfl⟩⟩
 ·obtain ⟨rfl, rfl⟩ := h
  simp only [R] at hx
  exact ⟨rfl, rfl, .inl ⟨_, hx⟩⟩
 ·obtain ⟨rfl, rfl⟩ := h
  simp only [R] at hx
  obtain ⟨b, o, rfl, _⟩ := hx
  exact ⟨rfl, rfl, .inl ⟨_, rfl⟩⟩
 ·obtain ⟨rfl, rfl⟩ := h
  simp only [R] at hx
  obtain ⟨b, o, rfl, _⟩ := hx
  exact ⟨rfl, rfl, .inr (.inl ⟨_, _, _, rfl⟩)⟩
 ·obtain ⟨rfl, rfl⟩ := h
  simp only [R] at hx
  obtain ⟨y, rfl, _⟩ := hx
  exact ⟨rfl, rfl, .inr (.inr ⟨_, _, rfl⟩)⟩
 ·exact h.elim

/-! ### Type assertions -/
theorem zeroA_run (hT : TbOk P tb) {s : St} {T : TypeId} {ti : TI} (hl : lk tb T = some ti) {z : AV} (h : zeroA ti = some z) : ∃ zv, (zeroValue T).run P s.w = .ok zv s.w ∧ R s z zv := by
 obtain ⟨i, zv, hi, hs, _, hz, hzf⟩ := (tb_und hT hl).info
 have hrow := (tb_und hT hl).row i zv hi hz
 obtain ⟨h1, h2⟩ := zf_RL (s := s) hzf
 refine ⟨zv, by simp [zeroValue, typeInfo, hi, hz], ?_⟩
 unfold zeroA ldA at h
 split at h
 ·rename_i hk
  cases hb : Nat.ble ti.size ti.zero.length with
  | false => rw [hb] at h; cases h
  | true =>
   rw [hb] at h
   cases h
   have hlen := RL_vals h1
   have hle := Nat.le_of_ble_eq_true hb
   cases zv <;> simp only [rowZ, hk, Bool.not_true, Bool.true_and] at hrow <;> first
    | (cases hrow; done)
    | skip
   rename_i a
   have hsz := Nat.eq_of_beq_eq_true hrow
   simp only [R]
   have hal : (Value.agg a).cells.toList.length = a.size := by simp [Value.cells]
   refine ⟨a.toList, by simp, ?_, by simpa [Value.cells] using h2⟩
   have : ti.zero.take ti.size = ti.zero := List.take_of_length_le (by omega)
   rw [this]
   simpa [Value.cells] using h1
 ·rename_i hk
  split at h
  ·rename_i c cs hzc
   have hc1 : zv.cells = #[zv] := by
    cases zv <;> simp only [rowZ, hk, Bool.false_and] at hrow <;> first
     | (cases hrow; done)
     | rfl
   rw [hc1, hzc] at h1
   simp only [RL] at h1
   obtain ⟨v, vs', he, h3, _⟩ := h1
   cases he
   cases h
   exact h3
  ·cases h
theorem assert_Gv (hT : TbOk P tb) {s : St} (hok : Ok s) {nid : Nat} {T X : TypeId} {ok : Bool} {x : AV} {cx : Value} (hx : R s x cx) {v : AV} {ob : Option AObj} (h : (pAssert tb x T ok).Is v ob) : Gv P (Instr.typeAssert cx X T ok) s nid v ob := by
 unfold pAssert at h
 split at h
 ·exact h.elim
 ·rename_i ti hl
  obtain ⟨d, hd, hf⟩ := (tb_und hT hl).und
  split at h
  ·exact h.elim
  ·rename_i hk
   have hni : ∀ ms, d ≠ .interface ms := by
    rintro ms rfl
    cases hki : ti.kind <;> rw [hki] at hf <;> simp [TK.fits] at hf
    exact hk hki
   have tup2 : ∀ a b : AV, ∀ ca cb : Value, R s a ca → R s b cb → R s (.tup [a, b]) (.tuple #[ca, cb]) := fun a b ca cb ha hb => by
    simp only [R, RL]
    exact ⟨[ca, cb], rfl, ca, [cb], rfl, ha, cb, [], rfl, hb, rfl⟩
   split at h
   ·rename_i t y
    simp only [R] at hx
    obtain ⟨cy, rfl, hy⟩ := hx
    split at h
    ·rename_i hb
     obtain ⟨rfl, rfl⟩ := h
     have := Nat.eq_of_beq_eq_true hb
     subst this
     refine Gv.same (cv := .tuple #[cy, .bool true]) hok ?_ (tup2 _ _ _ _ hy (by simp only [R]))
     simp only [Instr.typeAssert, Sem.run_bind, run_underlying hd, Result.andThen_ok]
     cases d <;> first
      | (exact absurd rfl (hni _))
      | simp
    ·rename_i hb
     obtain ⟨rfl, rfl⟩ := h
     have := Nat.eq_of_beq_eq_true hb
     subst this
     refine Gv.same (cv := cy) hok ?_ hy
     simp only [Instr.typeAssert, Sem.run_bind, run_underlying hd, Result.andThen_ok]
     cases d <;> first
      | (exact absurd rfl (hni _))
      | simp
    ·rename_i hb
     split at h
     ·rename_i z hz
      obtain ⟨rfl, rfl⟩ := h
      have hne : t ≠ T := by rintro rfl; simp at hb
      obtain ⟨zv, hzr, hzv⟩ := zeroA_run hT (s := s) hl hz
      refine Gv.same (cv := .tuple #[zv, .bool false]) hok ?_ (tup2 _ _ _ _ hzv (by simp only [R]))
      simp only [Instr.typeAssert, Sem.run_bind, run_underlying hd, Result.andThen_ok]
      cases d <;> first
       | (exact absurd rfl (hni _))
       | simp [hne, hzr]
     ·exact h.elim
    ·exact h.elim
   ·simp only [R] at hx
    subst hx
    split at h
    ·split at h
     ·rename_i z hz
      obtain ⟨rfl, rfl⟩ := h
      obtain ⟨zv, hzr, hzv⟩ := zeroA_run hT (s := s) hl hz
      refine Gv.same (cv := .tuple #[zv, .bool false]) hok ?_ (tup2 _ _ _ _ hzv (by simp only [R]))
      simp only [Instr.typeAssert, Sem.run_bind, run_underlying hd, Result.andThen_ok]
      cases d <;> first
       | (exact absurd rfl (hni _))
       | simp [hzr]
     ·exact h.elim
    ·exact h.elim
   ·exact h.elim
theorem minmax_Gv {s : St} (hok : Ok s) {nid : Nat} {mx : Bool} {xs : List AV} {cs : List Value} (hx : RL s xs cs) {A : Array TypeId} {ty : TypeId} {v : AV} {ob : Option AObj} (h : (pMinMax mx xs).Is v ob) :
  Gv P (if mx then Builtin.max_ A ty cs.toArray else Builtin.min_ A ty cs.toArray) s nid v ob := by
 unfold pMinMax at h
 split at h
 ·rename_i k a k' b
  simp only [RL, R] at hx
  obtain ⟨_, _, rfl, rfl, _, _, rfl, rfl, rfl⟩ := hx
  split at h
  ·obtain ⟨rfl, rfl⟩ := h
   refine Gv.same (cv := .int k (if a < b then b else a)) hok ?_ (by simp only [R])
   simp [Builtin.max_, Builtin.max2]
  ·obtain ⟨rfl, rfl⟩ := h
   refine Gv.same (cv := .int k (if b < a then b else a)) hok ?_ (by simp only [R])
   simp [Builtin.min_, Builtin.min2]
 ·rename_i a b
  simp only [RL, R] at hx
  obtain ⟨_, _, rfl, rfl, _, _, rfl, rfl, rfl⟩ := hx
  split at h
  ·exact h.elim
  ·obtain ⟨rfl, rfl⟩ := h
   refine Gv.same (cv := .string (if sLt b a then b else a)) hok ?_ (by simp only [R])
   have hgt : (Op.bytesLess a.toList b.toList || a.toList == b.toList) = !sLt b a := by
    rw [sLt, ← bytesLess_tri, ByteArray.toList_eq, ByteArray.toList_eq]
   simp only [Bool.false_eq_true, if_false, Builtin.min_, List.foldlM_cons, List.foldlM_nil, Builtin.min2, Op.stringOp, hgt, Sem.run_bind, Sem.run_pure, Result.andThen_ok, asBool]
   cases sLt b a <;> simp
 ·exact h.elim
end
end Av
