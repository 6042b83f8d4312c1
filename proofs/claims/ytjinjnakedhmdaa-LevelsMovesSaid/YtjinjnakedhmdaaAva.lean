/-
  An abstract reading of values and memory: operators.
-/
import Derived.Test.YtjinjnakedhmdaaAv9
namespace Av
open Go
section
variable {P : Program} {tb : Tb}

def noAgg : Value → Bool
  | .agg _ => false
  | .nilIface => false
  | _ => true
theorem guard_run (op : BinOp) (T : TypeId) (ox oy : Operand) (a b : Value) (h : noAgg a = true) (w : World) : (eqGuard op T ox oy a b).run P w = .ok () w := by
  cases op <;> cases a <;> simp_all [eqGuard, noAgg]
theorem bin_Gv_of {s : St} (hok : Ok s) {nid : Nat} {op : BinOp} {T : TypeId} {ox oy : Operand} {cx cy cv : Value} {v : AV} (hn : noAgg cx = true) (hr : (Go.binOp op T cx cy).run P s.w = .ok cv s.w) (hv : R s v cv) :
    Gv P (do eqGuard op T ox oy cx cy; Go.binOp op T cx cy) s nid v none := by
  refine Gv.same hok ?_ hv
  rw [Sem.run_bind, guard_run op T ox oy cx cy hn s.w]
  exact hr
theorem intBin_Gv {s : St} (hok : Ok s) {nid : Nat} {op : BinOp} {T : TypeId} {ox oy : Operand} {k k' : IntKind} {a b : Int} {v : AV} {ob : Option AObj} (h : (pBin tb op T (.int k a) (.int k' b)).Is v ob) :
    Gv P (do eqGuard op T ox oy (.int k a) (.int k' b); Go.binOp op T (.int k a) (.int k' b)) s nid v ob := by
  unfold pBin at h
  simp only at h
  split at h
  · obtain ⟨⟨h0, h1, h2⟩, rfl, rfl⟩ := h
    refine bin_Gv_of (cv := .int k (a * 2 ^ b.toNat)) hok rfl ?_ (by simp only [R])
    have e : min b.toNat k.bits = b.toNat := by omega
    simp only [Go.binOp, Op.shift, if_neg (Int.not_lt.2 h0), e, wrap_in h2, Sem.run_pure]
  · obtain ⟨⟨h0, h1⟩, rfl, rfl⟩ := h
    refine bin_Gv_of (cv := .int k (a / 2 ^ b.toNat)) hok rfl ?_ (by simp only [R])
    have e : min b.toNat k.bits = b.toNat := by omega
    have hp : (0 : Int) ≤ 2 ^ b.toNat := by
      exact Int.le_of_lt (Int.pow_pos (by decide))
    simp only [Go.binOp, Op.shift, if_neg (Int.not_lt.2 h0), e, Sem.run_pure, Int.fdiv_eq_ediv_of_nonneg a hp]
  · split at h
    · exact h.elim
    · rename_i hk
      have hk := of_decide_eq_true hk
      subst hk
      split at h
      · obtain ⟨hin, rfl, rfl⟩ := h
        exact bin_Gv_of hok rfl (by simp [Go.binOp, Op.intArith, wrap_in hin]; rfl) (by simp only [R])
      · obtain ⟨hin, rfl, rfl⟩ := h
        exact bin_Gv_of hok rfl (by simp [Go.binOp, Op.intArith, wrap_in hin]; rfl) (by simp only [R])
      · obtain ⟨hin, rfl, rfl⟩ := h
        exact bin_Gv_of hok rfl (by simp [Go.binOp, Op.intArith, wrap_in hin]; rfl) (by simp only [R])
      · obtain ⟨⟨h0, h1, hin⟩, rfl, rfl⟩ := h
        have hb : b ≠ 0 := by omega
        exact bin_Gv_of (cv := .int k (a / b)) hok rfl (by simp [Go.binOp, Op.intDiv, hb, Int.tdiv_eq_ediv_of_nonneg h0, wrap_in hin]) (by simp only [R])
      · obtain ⟨⟨h0, h1⟩, rfl, rfl⟩ := h
        have hb : b ≠ 0 := by omega
        exact bin_Gv_of (cv := .int k (a % b)) hok rfl (by simp [Go.binOp, Op.intDiv, hb, Int.tmod_eq_emod_of_nonneg h0]) (by simp only [R])
      all_goals first
        | exact h.elim
        | (obtain ⟨rfl, rfl⟩ := h; exact bin_Gv_of hok rfl (by simp [Go.binOp, Op.intCmp]; rfl) (by simp only [R]))
theorem strBin_Gv {s : St} (hok : Ok s) {nid : Nat} {op : BinOp} {T : TypeId} {ox oy : Operand} {a b : ByteArray} {v : AV} {ob : Option AObj} (h : (pBin tb op T (.str a) (.str b)).Is v ob) :
    Gv P (do eqGuard op T ox oy (.string a) (.string b); Go.binOp op T (.string a) (.string b)) s nid v ob := by
  unfold pBin at h
  simp only at h
  have hgt : (Op.bytesLess a.toList b.toList || a.toList == b.toList) = !sLt b a := by
    rw [sLt, ← bytesLess_tri, ByteArray.toList_eq, ByteArray.toList_eq]
  split at h
  · obtain ⟨hin, rfl, rfl⟩ := h
    refine bin_Gv_of (cv := .string (a ++ b)) hok rfl ?_ (by simp only [R])
    have : ¬ ((a.size + b.size : Nat) : Int) > IntKind.i64.max := by
      have : IntKind.i64.max = 9223372036854775807 := by decide
      rw [this]; omega
    simp only [Go.binOp, Op.stringOp, if_neg this, Sem.run_pure]
  · obtain ⟨rfl, rfl⟩ := h
    exact bin_Gv_of (cv := .bool (sEq a b)) hok rfl (by simp only [Go.binOp, Op.stringOp, sEq_model, Sem.run_pure]) (by simp only [R])
  · obtain ⟨rfl, rfl⟩ := h
    exact bin_Gv_of (cv := .bool (!sEq a b)) hok rfl (by simp only [Go.binOp, Op.stringOp, sEq_model, Sem.run_pure]) (by simp only [R])
  · obtain ⟨rfl, rfl⟩ := h
    exact bin_Gv_of (cv := .bool (sLt a b)) hok rfl (by simp only [Go.binOp, Op.stringOp, sLt_model, Sem.run_pure]) (by simp only [R])
  · obtain ⟨rfl, rfl⟩ := h
    exact bin_Gv_of (cv := .bool (!sLt b a)) hok rfl (by simp only [Go.binOp, Op.stringOp, hgt, Sem.run_pure]) (by simp only [R])
  · obtain ⟨rfl, rfl⟩ := h
    exact bin_Gv_of (cv := .bool (sLt b a)) hok rfl (by simp only [Go.binOp, Op.stringOp, hgt, Bool.not_not, Sem.run_pure]) (by simp only [R])
  · obtain ⟨rfl, rfl⟩ := h
    exact bin_Gv_of (cv := .bool (!sLt a b)) hok rfl (by simp only [Go.binOp, Op.stringOp, sLt_model, Sem.run_pure]) (by simp only [R])
  · exact h.elim
theorem kind_get {T : TypeId} {k : TK} (h : kindOf tb T = some k) : ∃ ti, lk tb T = some ti ∧ ti.kind = k := by
  unfold kindOf at h
  cases hl : lk tb T with
  | none => rw [hl] at h; cases h
  | some ti => rw [hl] at h; exact ⟨ti, rfl, Option.some.inj h⟩
theorem bool_und (hT : TbOk P tb) {T : TypeId} {ti : TI} (h : lk tb T = some ti) (hk : ti.kind = .bool) : P.underlying T = some .bool := by
  obtain ⟨d, hd, hf⟩ := (tb_und hT h).und
  rw [hk] at hf
  cases d <;> simp only [TK.fits] at hf <;> first
    | (cases hf; done)
    | exact hd
theorem ptr_und (hT : TbOk P tb) {T : TypeId} {ti : TI} {e : TypeId} (h : lk tb T = some ti) (hk : ti.kind = .ptr e) : ∃ e, P.underlying T = some (.pointer e) := by
  obtain ⟨d, hd, hf⟩ := (tb_und hT h).und
  rw [hk] at hf
  cases d <;> simp only [TK.fits] at hf <;> first
    | (cases hf; done)
    | exact ⟨_, hd⟩
theorem eql_run {s : St} {T : TypeId} {cx cy : Value} {b : Bool} (hq : (Op.equal T cx cy).run P s.w = .ok b s.w)
    (hb : Go.binOp .eql T cx cy = (do pure (.bool (← Op.equal T cx cy))) ∧ Go.binOp .neq T cx cy = (do pure (.bool (!(← Op.equal T cx cy))))) :
    (Go.binOp .eql T cx cy).run P s.w = .ok (.bool b) s.w ∧ (Go.binOp .neq T cx cy).run P s.w = .ok (.bool (!b)) s.w := by
  rw [hb.1, hb.2]
  simp only [Sem.run_bind, hq, Result.andThen_ok, Sem.run_pure, and_self]
theorem ptrEq_run (d : Nat) (T e : TypeId) (h : P.underlying T = some (.pointer e)) (a : Option Addr) (w : World) : (Op.equalIn (d + 1) T (.pointer a) (.pointer none)).run P w = .ok a.isNone w := by
  simp only [Op.equalIn, Sem.run_bind, run_underlying h, Result.andThen_ok]
  cases a <;> rfl
theorem hx_fn {s : St} {f : Fn} {first caps : List AV} {v : Value} (h : R s (.fn f first caps) v) : ∃ xs ys : List Value, v = .func f xs.toArray ys.toArray ∧ True := by
  simp only [R] at h
  obtain ⟨xs, ys, h, _⟩ := h
  exact ⟨xs, ys, h, trivial⟩
theorem fin_Gv {s : St} (hok : Ok s) {nid : Nat} {op : BinOp} {T : TypeId} {ox oy : Operand} {cx cy : Value} {b : Bool} (hq : (Op.equal T cx cy).run P s.w = .ok b s.w)
    (hb : Go.binOp .eql T cx cy = (do pure (.bool (← Op.equal T cx cy))) ∧ Go.binOp .neq T cx cy = (do pure (.bool (!(← Op.equal T cx cy))))) (hg : noAgg cx = true) {v : AV} {ob : Option AObj} (h : (finEq op b).Is v ob) :
    Gv P (do eqGuard op T ox oy cx cy; Go.binOp op T cx cy) s nid v ob := by
  have hr := eql_run (P := P) (s := s) (T := T) hq hb
  unfold finEq at h
  split at h
  · obtain ⟨rfl, rfl⟩ := h
    exact bin_Gv_of hok hg hr.1 (by simp only [R])
  · obtain ⟨rfl, rfl⟩ := h
    exact bin_Gv_of hok hg hr.2 (by simp only [R])
  · exact h.elim
theorem fn_und (hT : TbOk P tb) {T : TypeId} {ti : TI} (h : lk tb T = some ti) (hk : ti.kind = .fn) : ∃ a b c, P.underlying T = some (.func a b c) := by
  obtain ⟨d, hd, hf⟩ := (tb_und hT h).und
  rw [hk] at hf
  cases d <;> simp only [TK.fits] at hf <;> first
    | (cases hf; done)
    | exact ⟨_, _, _, hd⟩
theorem ifc_und (hT : TbOk P tb) {T : TypeId} {ti : TI} (h : lk tb T = some ti) (hk : ti.kind = .ifc) : ∃ a, P.underlying T = some (.interface a) := by
  obtain ⟨d, hd, hf⟩ := (tb_und hT h).und
  rw [hk] at hf
  cases d <;> simp only [TK.fits] at hf <;> first
    | (cases hf; done)
    | exact ⟨_, hd⟩
theorem sliceEq_run (d : Nat) (T e : TypeId) (h : P.underlying T = some (.slice e)) (a : Option Addr) (n c : Nat) (w : World) : (Op.equalIn (d + 1) T (.slice a n c) (.slice none 0 0)).run P w = .ok a.isNone w := by
  simp only [Op.equalIn, Sem.run_bind, run_underlying h, Result.andThen_ok]
  cases a <;> rfl
theorem fnEq_run (d : Nat) (T : TypeId) {a b c} (h : P.underlying T = some (.func a b c)) (w : World) : (Op.equalIn (d + 1) T .nilFunc .nilFunc).run P w = .ok true w ∧ ∀ f x y, (Op.equalIn (d + 1) T (.func f x y) .nilFunc).run P w = .ok false w := by
  refine ⟨?_, fun f x y => ?_⟩
  · simp only [Op.equalIn, Sem.run_bind, run_underlying h, Result.andThen_ok]; rfl
  · simp only [Op.equalIn, Sem.run_bind, run_underlying h, Result.andThen_ok]; rfl
theorem ifcEq_run (d : Nat) (T : TypeId) {a} (h : P.underlying T = some (.interface a)) (w : World) (t : TypeId) (u : Value) : (Op.equalIn (d + 1) T (.iface t u) .nilIface).run P w = .ok false w := by
  simp only [Op.equalIn, Sem.run_bind, run_underlying h, Result.andThen_ok]; rfl
theorem nilEq_Gv (hT : TbOk P tb) {s : St} (hok : Ok s) {nid : Nat} {op : BinOp} {T : TypeId} {ox oy : Operand} {x y : AV} {cx cy : Value} (hx : R s x cx) (hy : R s y cy) {v : AV} {ob : Option AObj} (h : (pNilEq tb op T x y).Is v ob) :
    Gv P (do eqGuard op T ox oy cx cy; Go.binOp op T cx cy) s nid v ob := by
  unfold pNilEq at h
  have lst : ∀ {t : Ty} {l : List t.El} {e : TypeId}, P.underlying T = some (.slice e) → RLst s t l cx → cy = .slice none 0 0 → (Res.need (0 < l.length) (finEq op false)).Is v ob → Gv P (do eqGuard op T ox oy cx cy; Go.binOp op T cx cy) s nid v ob := by
    intro t l e hu hx hy h
    obtain ⟨hpos, h⟩ := h
    obtain ⟨ad, cap, rfl, _, hm⟩ := hx
    obtain ⟨b, o, rfl, _⟩ := hm (List.length_pos_iff.1 hpos)
    subst hy
    exact fin_Gv hok (sliceEq_run 9999 T e hu (some ⟨b, o, none⟩) _ _ s.w) ⟨rfl, rfl⟩ rfl h
  split at h
  · rename_i e hk
    obtain ⟨ti, hl, hk⟩ := kind_get hk
    have hu : P.underlying T = some (.slice e) := by
      obtain ⟨d, hd, hf⟩ := (tb_und hT hl).und
      rw [hk] at hf
      cases d <;> simp only [TK.fits] at hf <;> first
        | (cases hf; done)
        | (rw [Nat.eq_of_beq_eq_true hf]; exact hd)
    split at h
    · simp only [R] at hy
      split at h
      · simp only [R] at hx
        subst hx hy
        exact fin_Gv hok (sliceEq_run 9999 T e hu none 0 0 s.w) ⟨rfl, rfl⟩ rfl h
      · simp only [R] at hx
        exact lst hu hx hy h
      · simp only [R] at hx
        exact lst hu hx.1 hy h
      · exact h.elim
    · exact h.elim
  · rename_i e hk
    obtain ⟨ti, hl, hk⟩ := kind_get hk
    obtain ⟨e', he⟩ := ptr_und hT hl hk
    split at h
    · simp only [R] at hy
      subst hy
      split at h
      · simp only [R] at hx
        obtain ⟨b, o, rfl, _⟩ := hx
        exact fin_Gv hok (ptrEq_run 9999 T e' he (some ⟨b, o, none⟩) s.w) ⟨rfl, rfl⟩ rfl h
      · simp only [R] at hx
        obtain ⟨_, b, rfl, _⟩ := hx
        exact fin_Gv hok (ptrEq_run 9999 T e' he (some ⟨b, _, none⟩) s.w) ⟨rfl, rfl⟩ rfl h
      · exact h.elim
    · exact h.elim
  · rename_i hk
    obtain ⟨ti, hl, hk⟩ := kind_get hk
    obtain ⟨a, b, c, he⟩ := fn_und hT hl hk
    split at h
    · simp only [R] at hy
      subst hy
      split at h
      · simp only [R] at hx
        subst hx
        exact fin_Gv hok (fnEq_run 9999 T he s.w).1 ⟨rfl, rfl⟩ rfl h
      · obtain ⟨xs, ys, rfl, _⟩ := hx_fn hx
        exact fin_Gv hok ((fnEq_run 9999 T he s.w).2 _ _ _) ⟨rfl, rfl⟩ rfl h
      · exact h.elim
    · exact h.elim
  · rename_i hk
    obtain ⟨ti, hl, hk⟩ := kind_get hk
    obtain ⟨a, he⟩ := ifc_und hT hl hk
    split at h
    · simp only [R] at hy
      subst hy
      split at h
      · simp only [R] at hx
        obtain ⟨u, rfl, _⟩ := hx
        exact fin_Gv hok (ifcEq_run 9999 T he s.w _ _) ⟨rfl, rfl⟩ rfl h
      · exact h.elim
    · exact h.elim
  · exact h.elim
theorem bin_Gv (hT : TbOk P tb) {s : St} (hok : Ok s) {nid : Nat} {op : BinOp} {T : TypeId} {ox oy : Operand} {x y : AV} {cx cy : Value} (hx : R s x cx) (hy : R s y cy) {v : AV} {ob : Option AObj} (h : (pBin tb op T x y).Is v ob) :
    Gv P (do eqGuard op T ox oy cx cy; Go.binOp op T cx cy) s nid v ob := by
  have h' := h
  unfold pBin at h
  split at h
  · simp only [R] at hx hy
    subst hx hy
    exact intBin_Gv hok h'
  · simp only [R] at hx hy
    subst hx hy
    exact strBin_Gv hok h'
  · simp only [R] at hx hy
    subst hx hy
    rename_i a b
    split at h
    · rename_i hk
      obtain ⟨ti, hl, hk⟩ := kind_get hk
      obtain ⟨rfl, rfl⟩ := h
      have := eql_run (P := P) (s := s) (T := T) (cx := .bool a) (cy := .bool b) (b := a == b) (run_equalIn_bool' s.w 9999 T a b (bool_und hT hl hk)) ⟨rfl, rfl⟩
      exact bin_Gv_of hok rfl this.1 (by simp only [R])
    · rename_i hk
      obtain ⟨ti, hl, hk⟩ := kind_get hk
      obtain ⟨rfl, rfl⟩ := h
      have := eql_run (P := P) (s := s) (T := T) (cx := .bool a) (cy := .bool b) (b := a == b) (run_equalIn_bool' s.w 9999 T a b (bool_und hT hl hk)) ⟨rfl, rfl⟩
      exact bin_Gv_of hok rfl this.2 (by simp only [R])
    · exact h.elim
  · simp only [R] at hx hy
    subst hx hy
    have hq : ∀ e, P.underlying T = some (.pointer e) → (Op.equal T (.pointer none) (.pointer none)).run P s.w = .ok true s.w := fun e he => ptrEq_run 9999 T e he none s.w
    split at h
    · rename_i hk
      obtain ⟨ti, hl, hk⟩ := kind_get hk
      obtain ⟨e, he⟩ := ptr_und hT hl hk
      obtain ⟨rfl, rfl⟩ := h
      have := eql_run (P := P) (s := s) (T := T) (hq e he) ⟨rfl, rfl⟩
      exact bin_Gv_of hok rfl this.1 (by simp only [R])
    · rename_i hk
      obtain ⟨ti, hl, hk⟩ := kind_get hk
      obtain ⟨e, he⟩ := ptr_und hT hl hk
      obtain ⟨rfl, rfl⟩ := h
      have := eql_run (P := P) (s := s) (T := T) (hq e he) ⟨rfl, rfl⟩
      exact bin_Gv_of hok rfl this.2 (by simp only [R]; rfl)
    · exact h.elim
  · rename_i id off
    simp only [R] at hx hy
    subst hy
    obtain ⟨_, b, rfl, _⟩ := hx
    have hq : ∀ e (ad : Addr), P.underlying T = some (.pointer e) → (Op.equal T (.pointer (some ad)) (.pointer none)).run P s.w = .ok false s.w := fun e ad he => ptrEq_run 9999 T e he (some ad) s.w
    split at h
    · rename_i hk
      obtain ⟨ti, hl, hk⟩ := kind_get hk
      obtain ⟨e, he⟩ := ptr_und hT hl hk
      obtain ⟨rfl, rfl⟩ := h
      have := eql_run (P := P) (s := s) (T := T) (hq e ⟨b, off, none⟩ he) ⟨rfl, rfl⟩
      exact bin_Gv_of hok rfl this.1 (by simp only [R])
    · rename_i hk
      obtain ⟨ti, hl, hk⟩ := kind_get hk
      obtain ⟨e, he⟩ := ptr_und hT hl hk
      obtain ⟨rfl, rfl⟩ := h
      have := eql_run (P := P) (s := s) (T := T) (hq e ⟨b, off, none⟩ he) ⟨rfl, rfl⟩
      exact bin_Gv_of hok rfl this.2 (by simp only [R]; rfl)
    · exact h.elim
  · rename_i xs ys
    split at h
    · exact h.elim
    · rename_i ti hl
      split at h
      · rename_i fs hc
        split at h
        · rename_i a b hf ha hb
          simp only [R] at hx hy
          obtain ⟨vs, rfl, hx, hx1⟩ := hx
          obtain ⟨us, rfl, hy, hy1⟩ := hy
          obtain ⟨hsz, hck⟩ := (tb_und hT hl).code _ hc
          have enc : ∀ (zs : List AV) (ws : List Value) (z : (Ty.st fs).El), dec (.st fs) zs = some z → RL s zs ws → (∀ u ∈ ws, u.oneCell' = true) → VT s (.st fs) z (.agg ws.toArray) := by
            intro zs ws z hz hr h1
            simp only [VT]
            refine ⟨_, rfl, ?_⟩
            have := dec_RT (s := s) (.st fs) zs z (fun j => ws.toArray[j]?) hz (RC_of_RL hr h1 (fun j v hv => by simpa using hv))
            simpa only [RT] using this
          have hq : (Op.equal T (.agg vs.toArray) (.agg us.toArray)).run P s.w = .ok (eqT (.st fs) a b) s.w :=
            equalIn_run 50 10000 T (.st fs) a b _ _ (by omega) hck hf (enc _ _ _ ha hx hx1) (enc _ _ _ hb hy hy1)
          obtain ⟨gs, _, _, hg, _⟩ := chk_st hck
          have hgd := run_eqGuard_agg (P := P) s.w op T ox oy vs.toArray us.toArray hg
          have := eql_run (P := P) (s := s) (T := T) hq ⟨rfl, rfl⟩
          split at h
          · obtain ⟨rfl, rfl⟩ := h
            exact Gv.same hok (by rw [Sem.run_bind, hgd]; exact this.1) (by simp only [R])
          · obtain ⟨rfl, rfl⟩ := h
            exact Gv.same hok (by rw [Sem.run_bind, hgd]; exact this.2) (by simp only [R])
          · exact h.elim
        · exact h.elim
      · exact h.elim
  · exact nilEq_Gv hT hok hx hy h

/-! ### Conversions, interfaces -/
theorem un_Gv {s : St} (hok : Ok s) {nid : Nat} {op : UnOp} {x : AV} {cx : Value} (hx : R s x cx) {v : AV} {ob : Option AObj} (h : (pUn op x).Is v ob) : Gv P (Op.unary op cx) s nid v ob := by
  unfold pUn at h
  split at h
  · simp only [R] at hx
    subst hx
    obtain ⟨rfl, rfl⟩ := h
    exact Gv.same hok (by simp [Op.unary]; rfl) (by simp only [R])
  · simp only [R] at hx
    subst hx
    obtain ⟨hin, rfl, rfl⟩ := h
    rename_i k n
    exact Gv.same (cv := .int k (0 - n)) hok (by simp only [Op.unary, Op.intArith, wrap_in hin, Sem.run_pure]) (by simp only [R])
  · exact h.elim
theorem iface_Gv (hT : TbOk P tb) {s : St} (hok : Ok s) {nid : Nat} {T : TypeId} {x : AV} {cx : Value} (hx : R s x cx) {v : AV} {ob : Option AObj} (h : (pIface tb T x).Is v ob) : Gv P (Instr.makeInterface T cx) s nid v ob := by
  unfold pIface at h
  split at h
  · exact h.elim
  · rename_i ti hl
    obtain ⟨d, hd, hf⟩ := (tb_und hT hl).und
    split at h
    · exact h.elim
    · exact h.elim
    · exact h.elim
    · rename_i hk1 hk2 hk3
      obtain ⟨rfl, rfl⟩ := h
      refine Gv.same (cv := .iface T cx) hok ?_ (by simp only [R]; exact ⟨cx, rfl, hx⟩)
      simp only [Instr.makeInterface, Sem.run_bind, run_underlying hd, Result.andThen_ok]
      cases d <;> first
        | rfl
        | (exfalso; cases hki : ti.kind <;> rw [hki] at hf <;> simp [TK.fits] at hf; first | exact hk1 hki | exact hk2 hki | exact hk3 hki)
theorem extract_Gv {s : St} (hok : Ok s) {nid : Nat} {x : AV} {cx : Value} (hx : R s x cx) {i : Nat} {v : AV} {ob : Option AObj} (h : (pExtract x i).Is v ob) : Gv P (Instr.extract cx i) s nid v ob := by
  unfold pExtract at h
  split at h
  · obtain ⟨h1, rfl⟩ := okO_Is h
    simp only [R] at hx
    obtain ⟨vs, rfl, hl⟩ := hx
    obtain ⟨u, hu, hr⟩ := RL_get hl i v h1
    exact Gv.same (cv := u) hok (by simp [Instr.extract, hu]) hr
  · exact h.elim
theorem len_Gv (hT : TbOk P tb) {s : St} (hok : Ok s) {nid : Nat} {T ty : TypeId} {x : AV} {cx : Value} (hx : R s x cx) {v : AV} {ob : Option AObj} (h : (pLen tb T x).Is v ob) : Gv P (Builtin.len_ #[T] ty #[cx]) s nid v ob := by
  unfold pLen at h
  split at h
  · exact h.elim
  · rename_i ti hl
    have sl : ∀ e a n c, ti.kind = .sl e → cx = .slice a n c → (Builtin.len_ #[T] ty #[cx]).run P s.w = .ok (.int .i64 n) s.w := by
      intro e a n c hk hc
      subst hc
      simp [Builtin.len_, run_underlying (slice_und hT hl hk), goInt]
    split at h
    · rename_i str hk
      simp only [R] at hx
      subst hx
      obtain ⟨rfl, rfl⟩ := h
      exact Gv.same (cv := .int .i64 str.size) hok (by simp [Builtin.len_, run_underlying (str_und hT hl hk), goInt]) (by simp only [R])
    · rename_i e t l hk
      obtain ⟨rfl, rfl⟩ := h
      simp only [R] at hx
      obtain ⟨a, cap, rfl, _⟩ := hx
      exact Gv.same hok (sl _ _ _ _ hk rfl) (by simp only [R])
    · rename_i e t l hk
      obtain ⟨rfl, rfl⟩ := h
      simp only [R] at hx
      obtain ⟨⟨a, cap, rfl, _⟩, _⟩ := hx
      exact Gv.same hok (sl _ _ _ _ hk rfl) (by simp only [R])
    · rename_i e id g n hk
      obtain ⟨rfl, rfl⟩ := h
      simp only [R] at hx
      obtain ⟨_, a, cap, rfl, _⟩ := hx
      exact Gv.same hok (sl _ _ _ _ hk rfl) (by simp only [R])
    · rename_i e id g lo n hk
      obtain ⟨rfl, rfl⟩ := h
      simp only [R] at hx
      obtain ⟨_, a, cap, rfl, _⟩ := hx
      exact Gv.same hok (sl _ _ _ _ hk rfl) (by simp only [R])
    · rename_i e hk
      obtain ⟨rfl, rfl⟩ := h
      simp only [R] at hx
      subst hx
      exact Gv.same hok (sl _ _ _ _ hk rfl) (by simp only [R]; rfl)
    · exact h.elim
end
end Av
