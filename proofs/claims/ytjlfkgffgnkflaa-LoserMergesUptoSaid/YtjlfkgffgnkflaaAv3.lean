/-
  An abstract reading of values and memory: the table of types, and what an operation that only reads or makes memory gives.
-/
import Derived.Test.YtjlfkgffgnkflaaAv2
namespace Av
open Go

/-! ### The table of types -/
inductive TK where
  | bool | int (k : IntKind) | str | ptr (e : TypeId) | sl (e : TypeId) | st (fs : List (TypeId × Nat)) | fn | ifc | map (k v : TypeId) | ar (n : Nat) (e : TypeId)
def isRowK : TK → Bool
  | .st _ => true
  | .ar _ _ => true
  | _ => false
structure TI where
  kind : TK
  size : Nat
  bytes : Nat
  zero : List AV
  code : Option Ty
  meths : List (String × FuncId)
def pairsEq : List (TypeId × Nat) → List (TypeId × Nat) → Bool
  | [], [] => true
  | a :: as, b :: bs => Nat.beq a.1 b.1 && Nat.beq a.2 b.2 && pairsEq as bs
  | _, _ => false
theorem pairsEq_eq : ∀ {a b : List (TypeId × Nat)}, pairsEq a b = true → a = b
  | [], [], _ => rfl
  | [], _ :: _, h => by simp [pairsEq] at h
  | _ :: _, [], h => by simp [pairsEq] at h
  | (x, y) :: as, (x', y') :: bs, h => by
    simp only [pairsEq, Bool.and_eq_true] at h
    have h1 := Nat.eq_of_beq_eq_true h.1.1
    have h2 := Nat.eq_of_beq_eq_true h.1.2
    rw [pairsEq_eq h.2]
    simp_all
def TK.fits : TK → TypeDesc → Bool
  | .bool, .bool => true
  | .int k, .int k' => decide (k = k')
  | .str, .string => true
  | .ptr e, .pointer e' => Nat.beq e e'
  | .sl e, .slice e' => Nat.beq e e'
  | .st fs, .struct gs => pairsEq fs (gs.toList.map fun f => (f.type, f.offset))
  | .fn, .func _ _ _ => true
  | .ifc, .interface _ => true
  | .map k v, .map k' v' => Nat.beq k k' && Nat.beq v v'
  | .ar n e, .array n' e' => Nat.beq n n' && Nat.beq e e'
  | _, _ => false
def zv : AV → Value → Bool
  | .bool b, .bool b' => b == b'
  | .int k n, .int k' n' => decide (k = k') && n == n'
  | .str s, .string s' => Nat.beq s.size 0 && Nat.beq s'.size 0
  | .zsl _, .slice none 0 0 => true
  | .nsl, .slice none 0 0 => true
  | .nilp, .pointer none => true
  | .nilfn, .nilFunc => true
  | .nili, .nilIface => true
  | _, _ => false
def zf : List AV → List Value → Bool
  | [], [] => true
  | a :: as, v :: vs => zv a v && zf as vs
  | _, _ => false
def rowZ (k : TK) (n : Nat) : Value → Bool
  | .agg a => isRowK k && Nat.beq a.size n
  | .tuple _ => false
  | _ => !isRowK k
/-- Whether a type is a type of data. -/
def chkFs (P : Program) (chk : TypeId → Ty → Bool) : List Field → List Ty → Nat → Bool
  | [], [], _ => true
  | f :: fs, t :: ts, off => (f.name != "_") && Nat.beq f.offset off && chk f.type t && Nat.beq (P.cellsOf f.type) t.size && chkFs P chk fs ts (off + t.size)
  | _, _, _ => false
def chkC (P : Program) : Nat → TypeId → Ty → Bool
  | 0, _, _ => false
  | d + 1, T, t =>
    match t, P.underlying T with
    | .bool, some .bool => true
    | .int k, some (.int k') => decide (k = k')
    | .str, some .string => true
    | .sl e, some (.slice E) => chkC P d E e
    | .st ts, some (.struct gs) => !P.stoodInHeld T && !P.eqGuardType P.depth T && chkFs P (chkC P d) gs.toList ts 0
    | _, _ => false
def isPtrK : TK → Bool
  | .ptr _ => true
  | _ => false
/-- A method that a value of a type is called with as it is. -/
def chkM (i : TypeInfo) (k : TK) (p : String × FuncId) : Bool :=
  match i.methods.find? (·.name == p.1) with
  | some m => m.path.isEmpty && (match m.func with | some (f, b) => Nat.beq f p.2 && (b == isPtrK k) | none => false)
  | none => false
def TI.chk (P : Program) (T : TypeId) (ti : TI) : Bool :=
  match P.underlying T, P.info? T with
  | some d, some i => ti.kind.fits d && Nat.beq i.size ti.size && Nat.beq i.bytes ti.bytes && (match i.zero with | some z => zf ti.zero z.cells.toList | none => false) &&
      (match ti.code with | some t => Nat.beq t.size ti.size && chkC P 50 T t | none => true) && (match ti.kind with | .st fs => fs.all (fun p => (P.info? p.1).isSome) | _ => true) && (match i.zero with | some z => rowZ ti.kind ti.size z | none => false) && Nat.ble 1 ti.size && ti.meths.all (chkM i ti.kind)
  | _, _ => false
abbrev Tb := List (TypeId × TI)
def lk : Tb → TypeId → Option TI
  | [], _ => none
  | p :: tb, T => bif Nat.beq p.1 T then some p.2 else lk tb T
def TbOk (P : Program) (tb : Tb) : Prop := ∀ T ti, lk tb T = some ti → ti.chk P T = true
theorem TbOk.of_all {P : Program} : ∀ {tb : Tb}, (tb.all fun p => p.2.chk P p.1) = true → TbOk P tb
  | [], _ => fun T ti h => by simp [lk] at h
  | p :: tb, h => fun T ti hl => by
    simp only [List.all_cons, Bool.and_eq_true] at h
    simp only [lk] at hl
    cases hb : Nat.beq p.1 T with
    | true =>
      rw [hb] at hl
      cases hl
      have := Nat.eq_of_beq_eq_true hb
      subst this
      exact h.1
    | false =>
      rw [hb] at hl
      exact TbOk.of_all h.2 T ti hl

structure TI.Good (P : Program) (T : TypeId) (ti : TI) : Prop where
  und : ∃ d, P.underlying T = some d ∧ ti.kind.fits d = true
  info : ∃ i z, P.info? T = some i ∧ i.size = ti.size ∧ i.bytes = ti.bytes ∧ i.zero = some z ∧ zf ti.zero z.cells.toList = true
  code : ∀ t, ti.code = some t → t.size = ti.size ∧ chkC P 50 T t = true
  pos : 0 < ti.size
  row : ∀ i z, P.info? T = some i → i.zero = some z → rowZ ti.kind ti.size z = true
  flds : ∀ fs, ti.kind = .st fs → ∀ p ∈ fs, ∃ i, P.info? p.1 = some i
  meth : ∀ i, P.info? T = some i → ∀ p ∈ ti.meths, chkM i ti.kind p = true
theorem TI.good {P : Program} {T : TypeId} {ti : TI} (h : ti.chk P T = true) : ti.Good P T := by
  unfold TI.chk at h
  split at h
  · rename_i d i hd hi
    simp only [Bool.and_eq_true] at h
    obtain ⟨⟨⟨⟨⟨⟨⟨⟨h1, h2⟩, h3⟩, h4⟩, h5⟩, h7⟩, h8⟩, h6⟩, h9⟩ := h
    refine ⟨⟨d, hd, h1⟩, ?_, ?_, Nat.le_of_ble_eq_true h6, ?_, ?_, ?_⟩
    · split at h4
      · rename_i z hz
        exact ⟨i, z, hi, Nat.eq_of_beq_eq_true h2, Nat.eq_of_beq_eq_true h3, hz, h4⟩
      · cases h4
    · intro t ht
      rw [ht] at h5
      simp only [Bool.and_eq_true] at h5
      exact ⟨Nat.eq_of_beq_eq_true h5.1, h5.2⟩
    · intro i' z hi' hz
      rw [hi] at hi'
      cases hi'
      rw [hz] at h8
      exact h8
    · intro fs hfs p hp
      rw [hfs] at h7
      exact Option.isSome_iff_exists.1 (List.all_eq_true.1 h7 p hp)
    · intro i' hi' p hp
      rw [hi] at hi'
      cases hi'
      exact List.all_eq_true.1 h9 p hp
  · cases h

theorem ba_empty {s t : ByteArray} (h : s.size = 0) (h' : t.size = 0) : s = t := by
  rw [ByteArray.size_eq_zero_iff] at h h'
  rw [h, h']
theorem zv_R {s : St} {a : AV} {v : Value} (h : zv a v = true) : R s a v ∧ v.oneCell' = true := by
  unfold zv at h
  split at h
  · simp only [beq_iff_eq] at h; subst h; exact ⟨by simp only [R], rfl⟩
  · simp only [Bool.and_eq_true, decide_eq_true_eq, beq_iff_eq] at h; obtain ⟨rfl, rfl⟩ := h; exact ⟨by simp only [R], rfl⟩
  · simp only [Bool.and_eq_true] at h
    refine ⟨?_, rfl⟩
    rw [ba_empty (Nat.eq_of_beq_eq_true h.1) (Nat.eq_of_beq_eq_true h.2)]
    simp only [R]
  · exact ⟨by simp only [R], rfl⟩
  · exact ⟨by simp only [R], rfl⟩
  · exact ⟨by simp only [R], rfl⟩
  · exact ⟨by simp only [R], rfl⟩
  · exact ⟨by simp only [R], rfl⟩
  · cases h
theorem zf_RL {s : St} : ∀ {as : List AV} {vs : List Value}, zf as vs = true → RL s as vs ∧ ∀ u ∈ vs, u.oneCell' = true
  | [], [], _ => ⟨by simp only [RL], by simp⟩
  | [], _ :: _, h => by simp [zf] at h
  | _ :: _, [], h => by simp [zf] at h
  | a :: as, v :: vs, h => by
    simp only [zf, Bool.and_eq_true] at h
    obtain ⟨h1, h2⟩ := zv_R (s := s) h.1
    obtain ⟨h3, h4⟩ := zf_RL (s := s) h.2
    refine ⟨by simp only [RL]; exact ⟨v, vs, rfl, h1, h3⟩, ?_⟩
    intro u hu
    rcases List.mem_cons.1 hu with rfl | hu
    · exact h2
    · exact h4 u hu

/-! ### What an operation gives -/
inductive Res : Type 1 where
  | ok (v : AV) (ob : Option AObj)
  | need (p : Prop) [hp : Decidable p] (r : Res)
  | br (b : Bool) (x y : Res)
  | idx {α : Type} (l : List α) (i : Int) (k : α → Res)
  | bad
noncomputable def Res.sat (K : AV → Option AObj → Prop) (r : Res) : Prop :=
  @Res.rec (fun _ => Prop) (fun v ob => K v ob) (fun p hp _ ih => @Av.need p hp ih) (fun b _ _ ihx ihy => Av.br b ihx ihy) (fun l i _ ih => Av.idx l i fun x => ih x) False r
def Res.Is (v : AV) (ob : Option AObj) : Res → Prop
  | .ok v' ob' => v' = v ∧ ob' = ob
  | @Res.need p _ r => p ∧ r.Is v ob
  | .br b x y => (b = true ∧ x.Is v ob) ∨ (b = false ∧ y.Is v ob)
  | .idx l i k => ∃ x, 0 ≤ i ∧ l[i.toNat]? = some x ∧ (k x).Is v ob
  | .bad => False
theorem Res.sat_is {K : AV → Option AObj → Prop} : ∀ {r : Res}, r.sat K → ∃ v ob, r.Is v ob ∧ K v ob
  | .ok v ob, h => ⟨v, ob, ⟨rfl, rfl⟩, h⟩
  | @Res.need p _ r, h => by
    obtain ⟨h1, h2⟩ := need_elim h
    obtain ⟨v, ob, h3, h4⟩ := Res.sat_is h2
    exact ⟨v, ob, ⟨h1, h3⟩, h4⟩
  | .br b x y, h => by
    rcases br_elim h with ⟨h1, h2⟩ | ⟨h1, h2⟩
    · obtain ⟨v, ob, h3, h4⟩ := Res.sat_is h2
      exact ⟨v, ob, .inl ⟨h1, h3⟩, h4⟩
    · obtain ⟨v, ob, h3, h4⟩ := Res.sat_is h2
      exact ⟨v, ob, .inr ⟨h1, h3⟩, h4⟩
  | .idx l i k, h => by
    obtain ⟨x, h0, h1, h2⟩ := idx_elim h
    obtain ⟨v, ob, h3, h4⟩ := Res.sat_is h2
    exact ⟨v, ob, ⟨x, h0, h1, h3⟩, h4⟩
theorem Res.is_sat {K : AV → Option AObj → Prop} {v : AV} {ob : Option AObj} : ∀ {r : Res}, r.Is v ob → r.sat K → K v ob
  | .ok v' ob', h, hs => by obtain ⟨rfl, rfl⟩ := h; exact hs
  | @Res.need p _ r, h, hs => Res.is_sat h.2 (need_elim hs).2
  | .br b x y, h, hs => by
    rcases br_elim hs with ⟨h1, h2⟩ | ⟨h1, h2⟩ <;> rcases h with ⟨h3, h4⟩ | ⟨h3, h4⟩
    · exact Res.is_sat h4 h2
    · rw [h1] at h3; cases h3
    · rw [h1] at h3; cases h3
    · exact Res.is_sat h4 h2
  | .idx l i k, h, hs => by
    obtain ⟨x, _, h1, h2⟩ := idx_elim hs
    obtain ⟨y, _, h3, h4⟩ := h
    rw [h1] at h3
    cases h3
    exact Res.is_sat h4 h2

def putO (h : List AObj) (nid : Nat) : Option AObj → List AObj
  | none => h
  | some ob => put h nid ob
/-- The operation, run in the state s, gives what v stands for, and may have made the block nid. -/
def Gives (P : Program) (o : Oper) (a : Act) (s : St) (nid : Nat) (v : AV) (ob : Option AObj) : Prop :=
  ∃ cv s', (execOp a.eval o).run P s.w = .ok (.value cv) s'.w ∧ Step s s' ∧ Ok s' ∧ R s' v cv ∧ s'.h = putO s.h nid ob
theorem Gives.same {P : Program} {o : Oper} {a : Act} {s : St} {nid : Nat} {v : AV} {cv : Value} (hok : Ok s) (hr : (execOp a.eval o).run P s.w = .ok (.value cv) s.w) (hv : R s v cv) : Gives P o a s nid v none :=
  ⟨cv, s, hr, Step.refl s, hok, hv, rfl⟩
end Av
