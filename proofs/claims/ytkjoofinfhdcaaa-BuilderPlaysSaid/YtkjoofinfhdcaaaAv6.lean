/-
  An abstract reading of values and memory: what code is reckoned to do.
-/
import Derived.Test.YtkjoofinfhdcaaaAv5
namespace Av
open Go

/-! ### Frames -/
inductive Tr where
 | leaf
 | node (l : Tr) (v : AV) (r : Tr)
def Tr.get : Tr → Nat → AV
 | .leaf, _ => .any
 | .node l v r, n => match n with
  | 0 => v
  | m + 1 => match Nat.beq (m % 2) 0 with | true => l.get (m / 2) | false => r.get (m / 2)
def Tr.set : Tr → Nat → AV → Tr
 | .leaf, _, _ => .leaf
 | .node l v r, n, x => match n with
  | 0 => .node l x r
  | m + 1 => match Nat.beq (m % 2) 0 with | true => .node (l.set (m / 2) x) v r | false => .node l v (r.set (m / 2) x)
def Tr.setK : Tr → Nat → AV → (Tr → Prop) → Prop
 | .leaf, _, _, k => k .leaf
 | .node l v r, n, x, k => match n with
  | 0 => k (.node l x r)
  | m + 1 => match Nat.beq (m % 2) 0 with | true => l.setK (m / 2) x fun l' => k (.node l' v r) | false => r.setK (m / 2) x fun r' => k (.node l v r')
def Tr.mk : Nat → Tr
 | 0 => .leaf
 | d + 1 => .node (Tr.mk d) .any (Tr.mk d)
theorem Tr.setK_eq : ∀ (f : Tr) (n : Nat) (x : AV) (k : Tr → Prop), f.setK n x k = k (f.set n x)
 | .leaf, n, x, k => rfl
 | .node l v r, n, x, k => by
  cases n with
  | zero => rfl
  | succ m =>
   simp only [Tr.setK, Tr.set]
   split
   ·exact Tr.setK_eq l _ _ _
   ·exact Tr.setK_eq r _ _ _

/-! ### Forcing: a value is reckoned before it is kept -/
def fN (n : Nat) (k : Nat → Prop) : Prop := match n with
 | 0 => k 0
 | m + 1 => k (m + 1)
theorem fN_eq (n : Nat) (k : Nat → Prop) : fN n k = k n := by cases n <;> rfl
def f1 (v : AV) (k : AV → Prop) : Prop := match v with
 | .any => k .any | .und => k .und | .bool b => k (.bool b) | .int i n => k (.int i n) | .str s => k (.str s) | .nilp => k .nilp | .nsl => k .nsl | .zsl t => k (.zsl t) | .ptr i o => fN i fun i => fN o fun o => k (.ptr i o)
 | .optr a b c d e => fN a fun a => fN e fun e => k (.optr a b c d e) | .pv cs => k (.pv cs) | .agg cs => k (.agg cs) | .tup cs => k (.tup cs) | .lst t l => k (.lst t l) | .tlst t l => k (.tlst t l)
 | .own a b c => fN a fun a => k (.own a b c) | .osl a b c d => fN a fun a => k (.osl a b c d) | .tosl a b c d => fN a fun a => k (.tosl a b c d) | .fn f a b => k (.fn f a b) | .nilfn => k .nilfn | .iface t v => k (.iface t v) | .nili => k .nili | .nilm => k .nilm | .csl a b c => fN a fun a => k (.csl a b c) | .oth a => fN a fun a => k (.oth a) | .raw K b o => fN K fun K => fN o fun o => k (.raw K b o)
theorem f1_eq (v : AV) (k : AV → Prop) : f1 v k = k v := by cases v <;> simp only [f1, fN_eq]
def fl1 : List AV → (List AV → Prop) → Prop
 | [], k => k []
 | a :: l, k => f1 a fun a' => fl1 l fun l' => k (a' :: l')
theorem fl1_eq : ∀ (l : List AV) (k : List AV → Prop), fl1 l k = k l
 | [], k => rfl
 | a :: l, k => by simp only [fl1, f1_eq]; exact fl1_eq l _
def f2 (v : AV) (k : AV → Prop) : Prop := f1 v fun v => match v with
 | .agg cs => fl1 cs fun cs => k (.agg cs)
 | .pv cs => fl1 cs fun cs => k (.pv cs)
 | .iface t v => f1 v fun v => match v with
  | .agg cs => fl1 cs fun cs => k (.iface t (.agg cs))
  | v => k (.iface t v)
 | .fn f a b => fl1 a fun a => fl1 b fun b => k (.fn f a b)
 | v => k v
theorem f2_eq (v : AV) (k : AV → Prop) : f2 v k = k v := by
 unfold f2
 rw [f1_eq]
 cases v with
 | agg cs => exact fl1_eq cs _
 | pv cs => exact fl1_eq cs _
 | fn f a b => exact (fl1_eq a _).trans (fl1_eq b _)
 | iface t v =>
  show f1 v _ = _
  rw [f1_eq]
  cases v with
  | agg cs => exact fl1_eq cs _
  | _ => rfl
 | _ => rfl
def fl2 : List AV → (List AV → Prop) → Prop
 | [], k => k []
 | a :: l, k => f2 a fun a' => fl2 l fun l' => k (a' :: l')
theorem fl2_eq : ∀ (l : List AV) (k : List AV → Prop), fl2 l k = k l
 | [], k => rfl
 | a :: l, k => by simp only [fl2, f2_eq]; exact fl2_eq l _
def force (v : AV) (k : AV → Prop) : Prop := f1 v fun v => match v with
 | .tup vs => fl2 vs fun vs => k (.tup vs)
 | v => f2 v k
theorem force_eq (v : AV) (k : AV → Prop) : force v k = k v := by
 unfold force
 rw [f1_eq]
 cases v <;> simp only [f2_eq, fl2_eq]
def forceO (o : AObj) (k : AObj → Prop) : Prop := match o with
 | .resv => k .resv
 | .dead => k .dead
 | .oth o => k (.oth o)
 | .cells T cs => fl1 cs fun cs => k (.cells T cs)
 | .arr T t l f g => match f with
  | true => k (.arr T t l true g)
  | false => k (.arr T t l false g)
theorem forceO_eq (o : AObj) (k : AObj → Prop) : forceO o k = k o := by
 cases o <;> simp only [forceO, fl1_eq]
 split <;> rfl
abbrev Hp := List AObj
def putK : Hp → Nat → AObj → (Hp → Prop) → Prop
 | [], _, ob, k => k [ob]
 | o :: h, n, ob, k => match n with
  | 0 => k (ob :: h)
  | m + 1 => putK h m ob fun h' => k (o :: h')
theorem putK_eq : ∀ (h : Hp) (n : Nat) (ob : AObj) (k : Hp → Prop), putK h n ob k = k (put h n ob)
 | [], n, ob, k => by simp [putK, put]
 | o :: h, n, ob, k => by
  cases n with
  | zero => simp [putK, put]
  | succ m =>
   simp only [putK]
   rw [putK_eq h m ob _]
   congr 1
   simp only [put, List.length_cons]
   by_cases hlt : m < h.length
   ·rw [if_pos hlt, if_pos (by omega)]; simp
   ·rw [if_neg hlt, if_neg (by omega)]; rfl

def lenGo : Hp → Nat → (Nat → Prop) → Prop
 | [], n, k => fN n k
 | _ :: h, n, k => lenGo h (n + 1) k
def lenK (h : Hp) (k : Nat → Prop) : Prop := lenGo h 0 k
theorem lenGo_eq : ∀ (h : Hp) (n : Nat) (k : Nat → Prop), lenGo h n k = k (n + h.length)
 | [], n, k => by rw [lenGo, fN_eq]; rfl
 | _ :: h, n, k => by rw [lenGo, lenGo_eq h, List.length_cons, Nat.add_assoc, Nat.add_comm 1]
theorem lenK_eq (h : Hp) (k : Nat → Prop) : lenK h k = k h.length := by rw [lenK, lenGo_eq, Nat.zero_add]

/-! ### Effects -/
def pStore (tb : Tb) (h : Hp) (T : TypeId) (p v : AV) : Res :=
 match lk tb T, cellsOf (tyNil tb T v) with
 | some ti, some new => match p with
  | .ptr id off => match h[id]? with
   | some (.cells Tc cs) => match Nat.beq new.length ti.size && Nat.ble (off + new.length) cs.length with
    | true => .ok .any (some (.cells Tc (splice cs off new)))
    | false => .bad
   | _ => .bad
  | .optr id g t i off => match h[id]? with
   | some (.arr Te t' l f g') => .need (g' = g ∧ Ty.beq t' t = true) (.idx l (i : Int) fun x =>
     match Nat.beq new.length ti.size && Nat.ble (off + new.length) (flat t' x).length, dec t' (splice (flat t' x) off new) with
     | true, some y => .ok .any (some (.arr Te t' (l.set i y) f g'))
     | _, _ => .bad)
   | _ => .bad
  | .raw K b off => match h[K]? with
   | some (.oth (.bxs Te t' m)) => .idx (bxL m b) 0 fun x =>
     match Nat.beq new.length ti.size && Nat.ble (off + new.length) (flat t' x).length, dec t' (splice (flat t' x) off new) with
     | true, some y => .ok .any (some (.oth (.bxs Te t' (upB m b y))))
     | _, _ => .bad
   | _ => .bad
  | _ => .bad
 | _, _ => .bad

def srcOf (h : Hp) (t : Ty) (v : AV) (K : List t.El → Res) : Res :=
 match detos v with
 | .nsl => K []
 | .lst _ l => match castL (b := t) l with | some l => K l | none => .bad
 | .tlst _ l => match castL (b := t) l with | some l => K l | none => .bad
 | .own id g n => match h[id]? with
  | some (.arr _ _ l _ g') => match castL (b := t) l with | some l => .need (g' = g ∧ n ≤ l.length) (K (l.take n)) | none => .bad
  | _ => .bad
 | .osl id g lo n => match h[id]? with
  | some (.arr _ _ l _ g') => match castL (b := t) l with | some l => .need (g' = g ∧ lo + n ≤ l.length) (K ((l.drop lo).take n)) | none => .bad
  | _ => .bad
 | _ => .bad
def roomP (bytes n m : Nat) : Prop := n + m ≤ 9223372036854775807 ∧ (n + m) * bytes ≤ 140737488355328
instance (b n m : Nat) : Decidable (roomP b n m) := instDecidableAnd
def pTight (t : Ty) (e : TypeId) (bytes : Nat) (h : Hp) (nid : Nat) (s x : AV) : Res :=
 srcOf h t s fun l => srcOf h t x fun m => .need (roomP bytes l.length m.length)
  (.br (decide (m.length = 0)) (.ok s none) (.ok (.own nid 0 (l.length + m.length)) (some (.arr e t (l ++ m) false 0))))
def pAppend (tb : Tb) (h : Hp) (nid : Nat) (T : TypeId) (s x : AV) : Res :=
  match lk tb T with
  | some ti => match ti.kind with
    | .sl e => match lk tb e with
      | some te => match te.code with
        | some t =>
          match s with
          | .own id g n => match h[id]? with
            | some (.arr e' _ l f g') => match castL (b := t) l, Nat.beq e' e with
              | some l, true => srcOf h t x fun m => .need (g' = g ∧ n ≤ l.length ∧ roomP te.bytes n m.length)
                  (match f with
                   | true => .br (decide (n + m.length ≤ l.length)) (.ok (.own id g (n + m.length)) (some (.arr e t (l.take n ++ (m ++ l.drop (n + m.length))) true g)))
                       (.ok (.own id (g + 1) (n + m.length)) (some (.arr e t (l.take n ++ m) false (g + 1))))
                   | false => .ok (.own id (g + 1) (n + m.length)) (some (.arr e t (l.take n ++ m) false (g + 1))))
              | _, _ => .bad
            | _ => .bad
          | .tlst _ _ => pTight t e te.bytes h nid s x
          | .tosl _ _ _ _ => pTight t e te.bytes h nid s x
          | .nsl => srcOf h t x fun m => .need (roomP te.bytes 0 m.length) (.ok (.own nid 0 m.length) (some (.arr e t m false 0)))
          | .zsl _ => srcOf h t x fun m => .need (roomP te.bytes 0 m.length) (.ok (.own nid 0 m.length) (some (.arr e t m false 0)))
          | _ => .bad
        | none => .bad
      | none => .bad
    | _ => .bad
  | none => .bad
def pCopy (tb : Tb) (h : Hp) (T : TypeId) (d x : AV) : Res :=
 match lk tb T with
 | some ti => match ti.kind with
  | .sl e => match lk tb e with
   | some te => match te.code with
    | some t =>
     let go (id g lo n : Nat) : Res := match h[id]? with
      | some (.arr e' _ l f g') => match castL (b := t) l, Nat.beq e' e with
       | some l, true => srcOf h t x fun m => .need (g' = g ∧ lo + n ≤ l.length)
         (.ok (.int .i64 (min m.length n : Nat)) (some (.arr e t (l.take lo ++ (m.take n ++ l.drop (lo + (m.take n).length))) f g)))
       | _, _ => .bad
      | _ => .bad
     match d with
     | .own id g n => go id g 0 n
     | .osl id g lo n => go id g lo n
     | _ => .bad
    | none => .bad
   | none => .bad
  | _ => .bad
 | none => .bad

/-! ### Calls -/
abbrev DSpec := List AV → Option (Prop × AV)
abbrev CallA := FuncId → List AV → Hp → (AV → Hp → Prop) → Prop
def plainV : AV → Bool
 | .int _ _ => true
 | .bool _ => true
 | .str _ => true
 | .lst _ _ => true
 | _ => false
def plainVs : List AV → Bool
 | [] => true
 | c :: cs => plainV c && plainVs cs
mutual
def viewR (h : Hp) : AV → (AV → Res) → Res
 | .own id g n, k => match h[id]? with
  | some (.arr _ t l _ g') => .need (g' = g ∧ n ≤ l.length) (k (.lst t (l.take n)))
  | _ => .bad
 | .osl id g lo n, k => match h[id]? with
  | some (.arr _ t l _ g') => .need (g' = g ∧ lo + n ≤ l.length) (k (.lst t ((l.drop lo).take n)))
  | _ => .bad
 | .tosl id g lo n, k => match h[id]? with
  | some (.arr _ t l _ g') => .need (g' = g ∧ lo + n ≤ l.length) (k (.lst t ((l.drop lo).take n)))
  | _ => .bad
 | .agg cs, k => viewsR h cs fun cs => k (.agg cs)
 | .tup cs, k => viewsR h cs fun cs => k (.tup cs)
 | .iface t v, k => viewR h v fun v => k (.iface t v)
 | .bool b, k => k (.bool b)
 | .int i n, k => k (.int i n)
 | .str s, k => k (.str s)
 | .nilp, k => k .nilp
 | .nsl, k => k .nsl
 | .zsl t, k => k (.lst t [])
 | .lst t l, k => k (.lst t l)
 | .tlst t l, k => k (.lst t l)
 | .nilfn, k => k .nilfn
 | .nili, k => k .nili
 | .nilm, k => k .nilm
 | .fn f a b, k => viewsR h a fun a => viewsR h b fun b => k (.fn f a b)
 | .ptr id off, k => match h[id]? with
  | some (.cells _ cs) => match plainVs cs with
   | true => k (.pv (cs.drop off))
   | false => .bad
  | _ => .bad
 | _, _ => .bad
def viewsR (h : Hp) : List AV → (List AV → Res) → Res
 | [], k => k []
 | c :: cs, k => viewR h c fun c => viewsR h cs fun cs => k (c :: cs)
end
mutual
def flatV : AV → Bool
 | .bool _ => true
 | .int _ _ => true
 | .str _ => true
 | .nilp => true
 | .nsl => true
 | .zsl _ => true
 | .nilfn => true
 | .nili => true
 | .nilm => true
 | .agg cs => flatVs cs
 | .tup cs => flatVs cs
 | .iface _ v => flatV v
 | _ => false
def flatVs : List AV → Bool
 | [] => true
 | c :: cs => flatV c && flatVs cs
end
mutual
def ownV : AV → Bool
 | .own _ _ _ => true
 | .osl _ _ _ _ => true
 | .tosl _ _ _ _ => true
 | .agg cs => ownVs cs
 | .tup cs => ownVs cs
 | .iface _ v => ownV v
 | .ptr _ _ => true
 | .csl _ _ _ => true
 | .fn _ a b => ownVs a || ownVs b
 | _ => false
def ownVs : List AV → Bool
 | [] => false
 | c :: cs => ownV c || ownVs cs
end
mutual
def flatT : Ty → Bool
 | .sl _ => false
 | .ifc _ _ => false
 | .st fs => flatTs fs
 | _ => true
def flatTs : List Ty → Bool
 | [] => true
 | t :: ts => flatT t && flatTs ts
end
structure FRes where
 T : TypeId
 t : Ty
 l : List t.El
abbrev FSpec := List AV → Option (Prop × FRes)
structure IRes where
 t : Ty
 l : List t.El
abbrev ISpec := Hp → List AV → Option (Prop × IRes)
inductive Spec where
 | d (sp : DSpec)
 | f (sp : FSpec)
 | i (sp : ISpec)
instance : Coe DSpec Spec := ⟨.d⟩
instance : Coe FSpec Spec := ⟨.f⟩
noncomputable def needC (p : Prop) (r : Res) : Res := @Res.need p (Classical.propDecidable p) r
noncomputable def callD (h : Hp) (sp : DSpec) (xs : List AV) : Res :=
 viewsR h xs fun ys => match sp ys with
  | some (p, r) => match ownVs xs && !flatV r with
   | true => .bad
   | false => needC p (.ok r none)
  | none => .bad
noncomputable def callF (h : Hp) (nid : Nat) (sp : FSpec) (xs : List AV) : Res :=
 viewsR h xs fun ys => match sp ys with
  | some (p, r) => match ownVs xs && !flatT r.t with
   | true => .bad
   | false => needC p (.ok (.own nid 0 r.l.length) (some (.arr r.T r.t r.l false 0)))
  | none => .bad
structure Cx where
 tb : Tb
 fns : List (FuncId × Func)
 specs : List (FuncId × Spec)
def lkf : List (FuncId × Func) → FuncId → Option Func
 | [], _ => none
 | p :: l, f => bif Nat.beq p.1 f then some p.2 else lkf l f
def lks : List (FuncId × Spec) → FuncId → Option Spec
 | [], _ => none
 | p :: l, f => bif Nat.beq p.1 f then some p.2 else lks l f
def lkm : List (String × FuncId) → String → Option FuncId
 | [], _ => none
 | p :: l, n => match decide (p.1 = n) with | true => some p.2 | false => lkm l n
def calleeA (tb : Tb) (ρ : Operand → AV) : Callee → Option (FuncId × List AV × List AV)
 | .value x => match ρ x with
  | .fn (.func f) first caps => some (f, first, caps)
  | _ => none
 | .invoke r m => match ρ r with
  | .iface t v => match lk tb t with
   | some ti => match lkm ti.meths m with
    | some f => some (f, [v], [])
    | none => none
   | none => none
  | _ => none
 | _ => none
def pid : AV → Nat
 | .ptr id _ => id
 | .raw K _ _ => K
 | .optr id _ _ _ _ => id
 | .own id _ _ => id
 | .osl id _ _ _ => id
 | .tosl id _ _ _ => id
 | _ => 0
noncomputable def opR (C : Cx) (h : Hp) (nid : Nat) (ρ : Operand → AV) (o : Oper) : Res :=
 match o.op with
 | .store t a x => pStore C.tb h t (ρ a) (ρ x)
 | .call c => match c.callee, c.args.toList, c.argTypes.toList with
  | .builtin .append, [s, x], [t, t'] => match Nat.beq t t' with
   | true => pAppend C.tb h nid t (ρ s) (ρ x)
   | false => .bad
  | .builtin .copy, [s, x], [t, t'] => match Nat.beq t t' with
   | true => pCopy C.tb h t (ρ s) (ρ x)
   | false => .bad
  | .builtin _, _, _ => pop C.tb h nid ρ o
  | cl, args, _ => match calleeA C.tb ρ cl with
   | some (g, first, caps) => match lks C.specs g with
    | some (.d sp) => callD h sp (first ++ (args.map ρ ++ caps))
    | some (.f sp) => callF h nid sp (first ++ (args.map ρ ++ caps))
    | some (.i _) => .bad
    | none => .bad
   | none => .bad
 | _ => pop C.tb h nid ρ o
def posA (nid : Nat) (a : AV) : Nat := match a with | .own id _ _ => id | _ => nid
def posC (nid : Nat) (ρ : Operand → AV) (c : Call) : Nat :=
 match c.callee, c.args.toList, c.argTypes.toList with
 | .builtin .append, [s, _], [_, _] => posA nid (ρ s)
 | .builtin .copy, [s, _], [_, _] => pid (ρ s)
 | _, _, _ => nid
def posR (nid : Nat) (ρ : Operand → AV) (o : Oper) : Nat :=
 match o.op with
 | .store _ a _ => pid (ρ a)
 | .call c => posC nid ρ c
 | _ => nid

def initK : Tr → Nat → List AV → (Tr → Prop) → Prop
 | f, _, [], k => k f
 | f, n, v :: vs, k => force v fun v => f.setK n v fun f => initK f (n + 1) vs k
def depthOf (n : Nat) : Nat := match Nat.blt n 15, Nat.blt n 63, Nat.blt n 255 with
 | true, _, _ => 4
 | _, true, _ => 6
 | _, _, true => 8
 | _, _, _ => 12

def resA (tb : Tb) (f : Tr) (h : Hp) (k : AV → Prop) : ResultVar → Prop
 | .tmp t => k (f.get t)
 | .cell a T => match lk tb T, f.get a with
  | some ti, .ptr id off => match h[id]? with
   | some (.cells _ cs) => match ldA ti (cs.drop off) with | some v => k v | none => False
   | _ => False
  | _, _ => False
def resAs (tb : Tb) (f : Tr) (h : Hp) (k : List AV → Prop) : List ResultVar → Prop
 | [] => k []
 | r :: rs => resA tb f h (fun v => resAs tb f h (fun vs => k (v :: vs)) rs) r
def retA (tb : Tb) (rs : List ResultVar) (f : Tr) (h : Hp) (K : AV → Hp → Prop) : Prop :=
 resAs tb f h (fun vs => match vs with | [v] => force v fun v => K v h | vs => force (.tup vs) fun v => K v h) rs

/-! ### Code -/
inductive NZ where
 | own (n : Nat) (T : TypeId) (t : Ty)
 | lst (n : Nat) (t : Ty)
 | cell (id j : Nat) (T : TypeId) (t : Ty)
 | frz (id : Nat) (slots : List Nat) (cells : List (Nat × Nat))
 | mv (n p : Nat)
 | mvc (i j p : Nat)
 | bx (n K : Nat)
inductive bxP {α : Type} (m : List (Nat × α)) (P : Nat → Prop) : Prop where
 | mk (h : ∀ b, lkB m b = none → P b) : bxP m P
def frzV (h : Hp) (i0 : Nat) (v : AV) (K : AV → Prop) : Prop := match v with
 | .own id g m => match Nat.beq id i0, h[id]? with
  | true, some (.arr _ t' l' _ g') => need (g' = g ∧ m ≤ l'.length) (K (.lst t' (l'.take m)))
  | _, _ => False
 | .osl id g lo m => match Nat.beq id i0, h[id]? with
  | true, some (.arr _ t' l' _ g') => need (g' = g ∧ lo + m ≤ l'.length) (K (.lst t' ((l'.drop lo).take m)))
  | _, _ => False
 | .tosl id g lo m => match Nat.beq id i0, h[id]? with
  | true, some (.arr _ t' l' _ g') => need (g' = g ∧ lo + m ≤ l'.length) (K (.lst t' ((l'.drop lo).take m)))
  | _, _ => False
 | _ => False
def isOwn (i g : Nat) : AV → Bool
 | .own id g' _ => Nat.beq id i && Nat.beq g' g
 | .osl id g' _ _ => Nat.beq id i && Nat.beq g' g
 | .tosl id g' _ _ => Nat.beq id i && Nat.beq g' g
 | _ => false
def isOwnL (i g : Nat) : List AV → Bool
 | [] => false
 | c :: cs => isOwn i g c || isOwnL i g cs
def isOwnW (i g : Nat) (v : AV) : Bool := match v with
 | .agg cs => isOwnL i g cs
 | v => isOwn i g v
def genOf (h : Hp) (i : Nat) : Nat := match h[i]? with | some (.arr _ _ _ _ g) => g | _ => 0
def frzL (h : Hp) (i0 : Nat) : List AV → (List AV → Prop) → Prop
 | [], K => K []
 | c :: cs, K => match isOwn i0 (genOf h i0) c with
  | true => frzV h i0 c fun c => f1 c fun c => frzL h i0 cs fun cs => K (c :: cs)
  | false => frzL h i0 cs fun cs => K (c :: cs)
def frzW (h : Hp) (i0 : Nat) (v : AV) (K : AV → Prop) : Prop := match v with
 | .agg cs => frzL h i0 cs fun cs => K (.agg cs)
 | v => frzV h i0 v K
def frzS (h : Hp) (i0 : Nat) (f0 : Tr) : List Nat → Tr → (Tr → Prop) → Prop
 | [], f, K => K f
 | n :: ns, f, K => frzW h i0 (f0.get n) fun v => f1 v fun v => f.setK n v fun f => frzS h i0 f0 ns f K
def frzC (h0 : Hp) (i0 : Nat) : List (Nat × Nat) → Hp → (Hp → Prop) → Prop
 | [], h, K => K h
 | (i, j) :: l, h, K => match h0[i]? with
  | some (.cells _ cs0) => match cs0[j]? with
   | some v => frzV h0 i0 v fun v => f1 v fun v => match h[i]? with
    | some (.cells T cs) => putK h i (.cells T (cs.set j v)) fun h => frzC h0 i0 l h K
    | _ => False
   | none => False
  | _ => False
def normK1 : NZ → Tr → Hp → (Tr → Hp → Prop) → Prop
 | .own n T t, f, h, K => match f.get n with
  | .nsl => lenK h fun m => f.setK n (.own m 0 0) fun f => putK h m (.arr T t [] false 0) fun h => K f h
  | .zsl _ => lenK h fun m => f.setK n (.own m 0 0) fun f => putK h m (.arr T t [] false 0) fun h => K f h
  | _ => False
 | .lst n t, f, h, K => match f.get n with
  | .nsl => f.setK n (.lst t []) fun f => K f h
  | .zsl _ => f.setK n (.lst t []) fun f => K f h
  | .own id g m => match h[id]? with
   | some (.arr _ t' l' _ g') => need (g' = g ∧ m ≤ l'.length) (f.setK n (.lst t' (l'.take m)) fun f => putK h id .dead fun h => K f h)
   | _ => False
  | .osl id g lo m => match h[id]? with
   | some (.arr _ t' l' _ g') => need (g' = g ∧ lo + m ≤ l'.length) (f.setK n (.lst t' ((l'.drop lo).take m)) fun f => putK h id .dead fun h => K f h)
   | _ => False
  | _ => False
 | .cell id j T t, f, h, K => match h[id]? with
  | some (.cells Tc cs) => match cs[j]? with
   | some (.zsl _) => lenK h fun m => putK h m (.arr T t [] false 0) fun h' => putK h' id (.cells Tc (cs.set j (.own m 0 0))) fun h' => K f h'
   | some .nsl => lenK h fun m => putK h m (.arr T t [] false 0) fun h' => putK h' id (.cells Tc (cs.set j (.own m 0 0))) fun h' => K f h'
   | _ => False
  | _ => False
 | .frz id slots cells, f, h, K => match h[id]? with
  | some (.arr _ _ _ _ _) => putK h id .dead fun h' => frzS h id f slots f fun f => frzC h id cells h' fun h' => K f h'
  | _ => False
 | .mv n p, f, h, K => match f.get n with
  | .own id g m => match Nat.beq id p, h[id]?, h[p]? with
   | false, some (.arr T t l b g'), some (.arr T2 t2 _ _ gp) => (T2 = T ∧ t2 = t) ∧ need (g' = g ∧ m ≤ l.length) (f.setK n (.own p (gp + 1) m) fun f => putK h p (.arr T t l b (gp + 1)) fun h => putK h id .dead fun h => K f h)
   | _, _, _ => False
  | _ => False
 | .mvc i j p, f, h, K => match h[i]? with
  | some (.cells Tc cs) => match cs[j]? with
   | some (.own id g m) => match Nat.beq id p, h[id]?, h[p]? with
    | false, some (.arr T t l b g'), some (.arr T2 t2 _ _ gp) => (T2 = T ∧ t2 = t) ∧ need (g' = g ∧ m ≤ l.length) (putK h p (.arr T t l b (gp + 1)) fun h => putK h id .dead fun h => putK h i (.cells Tc (cs.set j (.own p (gp + 1) m))) fun h => K f h)
    | _, _, _ => False
   | _ => False
  | _ => False
 | .bx n K, f, h, Q => match f.get n with
  | .ptr id off => match Nat.beq off 0, h[id]?, h[K]? with
   | true, some (.cells T cs), some (.oth (.bxs T' t m)) => match Nat.beq T T', dec t cs with
    | true, some x => bxP m fun b => f.setK n (.raw K b 0) fun f => putK h id .dead fun h => putK h K (.oth (.bxs T t ((b, x) :: m))) fun h => Q f h
    | _, _ => False
   | _, _, _ => False
  | _ => False
def normK (l : List NZ) : Tr → Hp → (Tr → Hp → Prop) → Prop :=
 @List.rec NZ (fun _ => Tr → Hp → (Tr → Hp → Prop) → Prop) (fun f h K => K f h) (fun z _ ih f h K => normK1 z f h fun f h => ih f h K) l
theorem normK_cons (z : NZ) (l : List NZ) (f : Tr) (h : Hp) (K : Tr → Hp → Prop) : normK (z :: l) f h K = normK1 z f h fun f h => normK l f h K := rfl
def rawCall (C : Cx) (ρ : Operand → AV) (o : Oper) : Option (FuncId × List AV) :=
 match o.op with
 | .call c => match c.callee with
  | .builtin _ => none
  | cl => match calleeA C.tb ρ cl with
   | some (g, first, caps) => match lks C.specs g with
    | some _ => none
    | none => some (g, first ++ (c.args.toList.map ρ ++ caps))
   | none => none
 | _ => none
def roughV (h : Hp) (v : AV) : AV := match v with
 | .own id _ n => match h[id]? with | some (.arr _ t l _ _) => .lst t (l.take n) | _ => v
 | .osl id _ lo n => match h[id]? with | some (.arr _ t l _ _) => .lst t ((l.drop lo).take n) | _ => v
 | .tosl id _ lo n => match h[id]? with | some (.arr _ t l _ _) => .lst t ((l.drop lo).take n) | _ => v
 | .tlst t l => .lst t l
 | .zsl t => .lst t []
 | v => v
def roughVs (h : Hp) : List AV → List AV
 | [] => []
 | .agg cs :: vs => .agg (cs.map (roughV h)) :: roughVs h vs
 | v :: vs => roughV h v :: roughVs h vs
def frzQ (C : Cx) (h : Hp) (ρ : Operand → AV) (o : Oper) : Bool :=
 match o.op with
 | .call c => match c.callee with
  | .builtin _ => false
  | cl => match calleeA C.tb ρ cl with
   | some (g, first, caps) => match lks C.specs g with
    | some (.d sp) => match ownVs (first ++ (c.args.toList.map ρ ++ caps)) with
     | true => match sp (roughVs h (first ++ (c.args.toList.map ρ ++ caps))) with
      | some (_, r) => !flatV r
      | none => true
     | false => false
    | some (.f sp) => match ownVs (first ++ (c.args.toList.map ρ ++ caps)) with
     | true => match sp (roughVs h (first ++ (c.args.toList.map ρ ++ caps))) with
      | some (_, r) => !flatT r.t
      | none => true
     | false => false
    | some (.i _) => false
    | none => false
   | none => false
 | .buildSlice _ _ ps => ownVs (ps.toList.map fun p => ρ p.2)
 | _ => false
mutual
def ownIds : AV → List Nat
 | .own id _ _ => [id]
 | .osl id _ _ _ => [id]
 | .tosl id _ _ _ => [id]
 | .agg cs => ownIdsL cs
 | .tup cs => ownIdsL cs
 | .iface _ v => ownIds v
 | _ => []
def ownIdsL : List AV → List Nat
 | [] => []
 | c :: cs => ownIds c ++ ownIdsL cs
end
def slotsOf (i g : Nat) : Tr → Nat → Nat → List Nat
 | .leaf, _, _ => []
 | .node l v r, a, b => (match isOwnW i g v with | true => [b] | false => []) ++ (slotsOf i g l (2 * a) (a + b) ++ slotsOf i g r (2 * a) (2 * a + b))
def cellsAt (i g n : Nat) : Nat → List AV → List (Nat × Nat)
 | _, [] => []
 | j, c :: cs => (match isOwn i g c with | true => [(n, j)] | false => []) ++ cellsAt i g n (j + 1) cs
def cellsIn (i g : Nat) : Nat → Hp → List (Nat × Nat)
 | _, [] => []
 | n, .cells _ cs :: h => cellsAt i g n 0 cs ++ cellsIn i g (n + 1) h
 | n, _ :: h => cellsIn i g (n + 1) h
def dedup : List Nat → List Nat → List Nat
 | acc, [] => acc
 | acc, x :: xs => match acc.any (Nat.beq x) with | true => dedup acc xs | false => dedup (acc ++ [x]) xs
def autoNZ (xs : List AV) (f : Tr) (h : Hp) : List NZ := (dedup [] (ownIdsL xs)).map fun i => .frz i (slotsOf i (genOf h i) f 1 0) (cellsIn i (genOf h i) 0 h)
inductive frzP (xs : List AV) (P : Tr → Hp → Prop) (f : Tr) (h : Hp) : Prop where
 | mk (nz : List NZ) (hh : normK nz f h P) : frzP xs P f h
def argsA (ρ : Operand → AV) (o : Oper) : List AV := match o.op with
 | .call c => c.args.toList.map ρ
 | .buildSlice _ _ ps => ps.toList.map fun p => ρ p.2
 | _ => []
noncomputable def plainA (C : Cx) (o : Oper) (fin : Tr → AV → Hp → Prop) (f : Tr) (h : Hp) : Prop :=
 lenK h fun n => (opR C h n (ev f.get) o).sat fun v ob => match ob with
  | none => fin f v h
  | some ob => forceO ob fun ob => putK h (posR n (ev f.get) o) ob (fin f v)
/-! ### Maps -/
def zeroV (ti : TI) : Option AV := match isRowK ti.kind with
 | true => some (.agg ti.zero)
 | false => match ti.zero with
  | [a] => some a
  | _ => none
def hasK {kt vt : Ty} (l : List (kt.El × vt.El)) (k : kt.El) : Bool := l.any fun e => eqT kt e.1 k
def findK {kt vt : Ty} (l : List (kt.El × vt.El)) (k : kt.El) : Option vt.El := (l.find? fun e => eqT kt e.1 k).map (·.2)
def putL {kt vt : Ty} (l : List (kt.El × vt.El)) (k : kt.El) (y : vt.El) : List (kt.El × vt.El) := match hasK l k with
 | true => l.map fun e => if eqT kt e.1 k then (k, y) else e
 | false => l ++ [(k, y)]
inductive lookP {α : Type} (o : Option α) (K : Option α → Prop) : Prop where
 | mk (h1 : ∀ x, o = some x → K (some x)) (h2 : o = none → K none) : lookP o K
inductive nextP {α : Type} (l : List α) (seen : List Nat) (K1 : Nat → α → Prop) (K2 : Prop) : Prop where
 | mk (h1 : ∀ i x, l[i]? = some x → i ∉ seen → K1 i x) (h2 : (∀ i, i < l.length → i ∈ seen) → K2) : nextP l seen K1 K2
inductive nextQ {α : Type} (l : List α) (bs seen : List Nat) (K1 : Nat → α → Prop) (K2 : Prop) : Prop where
 | mk (h1 : ∀ (i b : Nat) (x : α), l[i]? = some x → bs[i]? = some b → b ∉ seen → K1 b x) (h2 : (∀ b ∈ bs, b ∈ seen) → K2) : nextQ l bs seen K1 K2
inductive entQ {α : Type} (l : List α) (bs : List Nat) (b : Nat) (K : α → Prop) : Prop where
 | mk (i : Nat) (x : α) (h1 : l[i]? = some x) (h2 : bs[i]? = some b) (h : K x) : entQ l bs b K
inductive delQ {kt vt : Ty} (l : List (kt.El × vt.El)) (k : kt.El) (K1 : Nat → Prop) (K2 : Prop) : Prop where
 | mk (h1 : ∀ (i : Nat) (x : kt.El × vt.El), l[i]? = some x → x.1 = k → K1 i) (h2 : hasK l k = false → K2) : delQ l k K1 K2
inductive allP (K : Nat → Prop) : Prop where
 | mk (h : ∀ n, K n) : allP K
def ansM (ok : Bool) (v : AV) (b : Bool) : AV := match ok with
 | true => .tup [v, .bool b]
 | false => v
def mapO (o : Oper) : Bool := match o.op with
 | .makeMap _ _ => true
 | .lookup _ _ _ _ => true
 | .mapUpdate _ _ _ _ => true
 | .range _ _ => true
 | .next _ _ => true
 | .entry _ => true
 | .call c => match c.callee with
  | .builtin .clear => true
  | .builtin .delete => true
  | _ => false
 | _ => false
def clr1 (h : Hp) (t : Ty) (e : TypeId) (z : t.El) (id g lo n : Nat) (K : Hp → Prop) : Prop := match h[id]? with
 | some (.arr e' _ l f g') => match castL (b := t) l, Nat.beq e' e with
  | some l, true => need (g' = g ∧ lo + n ≤ l.length) (putK h id (.arr e t (l.take lo ++ (List.replicate n z ++ l.drop (lo + n))) f g') K)
  | _, _ => False
 | _ => False
def clrA (h : Hp) (t : Ty) (e : TypeId) (z : t.El) (v : AV) (K : Hp → Prop) : Prop := match v with
 | .own id g n => clr1 h t e z id g 0 n K
 | .osl id g lo n => clr1 h t e z id g lo n K
 | .nsl => K h
 | .zsl _ => K h
 | _ => False
def mapA (tb : Tb) (o : Oper) (f : Tr) (h : Hp) (fin : Tr → AV → Hp → Prop) : Prop := match o.op with
 | .makeMap T r => match r, lk tb T with
  | none, some ti => match ti.kind with
   | .map k e => match lk tb k, lk tb e with
    | some tk, some te => match tk.code, te.code with
     | some kt, some vt => match keyTy kt with
      | true => allP fun bm => lenK h fun n => putK h n (.oth (.map bm kt vt [])) fun h => fin f (.oth n) h
      | false => False
     | _, _ => False
    | _, _ => False
   | _ => False
  | _, _ => False
 | .lookup T m k ok => match ev f.get m, lk tb T with
  | .oth id, some ti => match h[id]?, ti.kind with
   | some (.oth (.map _ kt vt l)), .map kT e => match lk tb kT, lk tb e, valD kt (ev f.get k) with
    | some tk, some te, some key => match tk.code, te.code, zeroV te with
     | some kt', some vt', some z => match Ty.beq kt' kt, Ty.beq vt' vt with
      | true, true => lookP (findK l key) fun r => match r with
       | some x => fin f (ansM ok (avV vt x) true) h
       | none => fin f (ansM ok z false) h
      | _, _ => False
     | _, _, _ => False
    | _, _, _ => False
   | some (.oth (.mapD _ kt vt l _ _)), .map kT e => match lk tb kT, lk tb e, valD kt (ev f.get k) with
    | some tk, some te, some key => match tk.code, te.code, zeroV te with
     | some kt', some vt', some z => match Ty.beq kt' kt, Ty.beq vt' vt with
      | true, true => lookP (findK l key) fun r => match r with
       | some x => fin f (ansM ok (avV vt x) true) h
       | none => fin f (ansM ok z false) h
      | _, _ => False
     | _, _, _ => False
    | _, _, _ => False
   | _, _ => False
  | _, _ => False
 | .mapUpdate T m k v => match ev f.get m, lk tb T, o.dst with
  | .oth id, some ti, none => match h[id]?, ti.kind with
   | some (.oth (.map bm kt vt l)), .map kT e => match lk tb kT, lk tb e, valD kt (ev f.get k), valD vt (tyNil tb e (ev f.get v)) with
    | some tk, some te, some key, some y => match tk.code, te.code with
     | some kt', some vt' => match Ty.beq kt' kt, Ty.beq vt' vt with
      | true, true => putK h id (.oth (.map bm kt vt (putL l key y))) fun h => fin f .und h
      | _, _ => False
     | _, _ => False
    | _, _, _, _ => False
   | some (.oth (.mapD bm kt vt l bs ck)), .map kT e => match lk tb kT, lk tb e, valD kt (ev f.get k), valD vt (tyNil tb e (ev f.get v)) with
    | some tk, some te, some key, some y => match tk.code, te.code with
     | some kt', some vt' => match Ty.beq kt' kt, Ty.beq vt' vt with
      | true, true => need (hasK l key = true) (putK h id (.oth (.mapD bm kt vt (putL l key y) bs ck)) fun h => fin f .und h)
      | _, _ => False
     | _, _ => False
    | _, _, _, _ => False
   | _, _ => False
  | _, _, _ => False
 | .range T m => match ev f.get m, lk tb T with
  | .oth id, some ti => match h[id]?, ti.kind with
   | some (.oth (.map bm _ _ l)), .map _ _ => lenK h fun n => putK h n (.oth (.iter id bm l.length [])) fun h => fin f (.oth n) h
   | some (.oth (.mapD bm _ _ _ _ ck)), .map _ _ => lenK h fun n => putK h n (.oth (.iter id bm ck [])) fun h => fin f (.oth n) h
   | _, _ => False
  | _, _ => False
 | .next it str => match ev f.get it, str with
  | .oth id, false => match h[id]? with
   | some (.oth (.iter mid bm n seen)) => match h[mid]? with
    | some (.oth (.map bm' kt vt l)) => need (bm' = bm ∧ n = l.length) (nextP l seen (fun i x => putK h id (.oth (.iter mid bm n (i :: seen))) fun h => fin f (.tup [.bool true, avV kt x.1, avV vt x.2]) h) (fin f (.tup [.bool false]) h))
    | some (.oth (.mapD bm' kt vt l bs ck)) => need (bm' = bm ∧ n = ck) (nextQ l bs seen (fun i x => putK h id (.oth (.iter mid bm n (i :: seen))) fun h => fin f (.tup [.bool true, avV kt x.1, avV vt x.2]) h) (fin f (.tup [.bool false]) h))
    | _ => False
   | _ => False
  | _, _ => False
 | .entry it => match ev f.get it with
  | .oth id => match h[id]? with
   | some (.oth (.iter mid bm n (i :: _))) => match h[mid]? with
    | some (.oth (.map bm' kt vt l)) => need (bm' = bm ∧ n = l.length) (idx l (i : Int) fun x => fin f (.tup [avV kt x.1, avV vt x.2]) h)
    | some (.oth (.mapD bm' kt vt l bs ck)) => need (bm' = bm ∧ n = ck) (entQ l bs i fun x => fin f (.tup [avV kt x.1, avV vt x.2]) h)
    | _ => False
   | _ => False
  | _ => False
 | .call c => match c.callee, c.args.toList, c.argTypes.toList with
  | .builtin .clear, [x], [T] => match lk tb T with
   | some ti => match ti.kind with
    | .sl e => match lk tb e with
     | some te => match te.code with
      | some t => match zeroEl t te with
       | some z => clrA h t e z (detos (ev f.get x)) fun h => fin f (.tup []) h
       | none => False
      | none => False
     | none => False
    | _ => False
   | none => False
  | .builtin .delete, [m, k], [T, _] => match ev f.get m, lk tb T with
   | .oth id, some ti => match h[id]?, ti.kind with
    | some (.oth (.map bm kt vt l)), .map kT _ => match lk tb kT, valD kt (ev f.get k) with
     | some tk, some key => match tk.code with
      | some kt' => match Ty.beq kt' kt with
       | true => delQ l key (fun i => putK h id (.oth (.mapD bm kt vt (l.eraseIdx i) ((List.range l.length).eraseIdx i) l.length)) fun h => fin f (.tup []) h) (fin f (.tup []) h)
       | false => False
      | none => False
     | _, _ => False
    | some (.oth (.mapD bm kt vt l bs ck)), .map kT _ => match lk tb kT, valD kt (ev f.get k) with
     | some tk, some key => match tk.code with
      | some kt' => match Ty.beq kt' kt with
       | true => delQ l key (fun i => putK h id (.oth (.mapD bm kt vt (l.eraseIdx i) (bs.eraseIdx i) ck)) fun h => fin f (.tup []) h) (fin f (.tup []) h)
       | false => False
      | none => False
     | _, _ => False
    | _, _ => False
   | _, _ => False
  | _, _, _ => False
 | _ => False
abbrev CslQ := Nat × Nat × Nat × Nat × Nat × TypeId
def cslO (f : Tr) (o : Oper) : Option CslQ := match o.op with
 | .call c => match c.callee, c.args.toList, c.argTypes.toList with
  | .builtin .append, [s, x], [t, t'] => match ev f.get s, ev f.get x, Nat.beq t t' with
   | .csl id n cap, .csl id2 m _, true => some (id, n, cap, id2, m, t)
   | _, _, _ => none
  | _, _, _ => none
 | _ => none
def freeP (h : Hp) (p : Nat) : Bool := Nat.beq p h.length || (match h[p]? with | some .resv => true | _ => false)
inductive apnP (e : TypeId) (h : Hp) (K : Nat → Prop) : Prop where
 | mk (p : Nat) (hp : freeP h p = true) (hh : K p) : apnP e h K
def cslA (tb : Tb) (q : CslQ) (f : Tr) (h : Hp) (fin : Tr → AV → Hp → Prop) : Prop := match q with
 | (id, n, cap, id2, m, t) => match lk tb t with
  | some ti => match ti.kind with
   | .sl e => match lk tb e, h[id]?, h[id2]? with
    | some te, some (.cells T cs), some (.cells _ cs2) => match Nat.beq T e && Nat.beq te.zero.length te.size with
     | true => need (cs.length = cap * te.size ∧ n ≤ cap ∧ m * te.size ≤ cs2.length ∧ 1 ≤ m ∧ roomP te.bytes n m)
       (apnP e h fun p => ∀ k : Nat, fN (n + m) fun nm => putK h id .dead fun h1 => putK h1 p (.cells e (cs.take (n * te.size) ++ (cs2.take (m * te.size) ++ List.replicate (k * te.size) .any))) fun h2 => fin f (.csl p nm (nm + k)) h2)
     | false => False
    | _, _, _ => False
   | _ => False
  | none => False
def rawS (C : Cx) (f : Tr) (o : Oper) : Option (Nat × Nat) := match o.op with
 | .store T _ (.tmp n) => match lk C.tb T with
  | some ti => match ti.code, f.get n with
   | some (.raw K), .ptr _ _ => some (n, K)
   | _, _ => none
  | none => none
 | _ => none
noncomputable def stepA (C : Cx) (call : CallA) (o : Oper) (f : Tr) (h : Hp) (K : Tr → Hp → Prop) : Prop :=
 let fin : Tr → AV → Hp → Prop := fun f v h => match o.dst with
  | some d => force v fun v => f.setK d v fun f => K f h
  | none => K f h
 match cslO f o with
 | some q => cslA C.tb q f h fin
 | none => match mapO o with
 | true => mapA C.tb o f h fin
 | false => match rawCall C (ev f.get) o with
  | some (g, xs) => fl2 xs fun xs => call g xs h (fin f)
  | none => match frzQ C h (ev f.get) o with
   | true => frzP (argsA (ev f.get) o) (fun f h => plainA C o fin f h) f h
   | false => match rawS C f o with
    | some (n, K) => normK1 (.bx n K) f h fun f h => plainA C o fin f h
    | none => plainA C o fin f h
/- Recursion is written with the recursors themselves, so that whoever checks a reckoning meets the same terms as whoever made it. -/
noncomputable def opsA (C : Cx) (call : CallA) (ops : Array Oper) (l : List Oper) : Tr → Hp → (Tr → Hp → Prop) → Prop :=
 @List.rec Oper (fun _ => Tr → Hp → (Tr → Hp → Prop) → Prop) (fun f h K => K f h)
  (fun o _ ih f h K =>
   match o.guard with
   | none => stepA C call o f h fun f h => ih f h K
   | some (j, want) => match (ops[j]?).bind (·.dst) with
    | none => False
    | some t =>
     let skip : Tr → Prop := fun f => match o.dst with
      | some d => f.setK d .und fun f => ih f h K
      | none => ih f h K
     match f.get t with
     | .bool b => match want with
      | true => br b (f.setK t (.bool true) fun f => stepA C call o f h fun f h => ih f h K) (f.setK t (.bool false) skip)
      | false => br b (f.setK t (.bool true) skip) (f.setK t (.bool false) fun f => stepA C call o f h fun f h => ih f h K)
     | .und => skip f
     | _ => False) l
theorem opsA_cons (C : Cx) (call : CallA) (ops : Array Oper) (o : Oper) (rest : List Oper) (f : Tr) (h : Hp) (K : Tr → Hp → Prop) : opsA C call ops (o :: rest) f h K =
  match o.guard with
  | none => stepA C call o f h fun f h => opsA C call ops rest f h K
  | some (j, want) => match (ops[j]?).bind (·.dst) with
   | none => False
   | some t =>
    let skip : Tr → Prop := fun f => match o.dst with
     | some d => f.setK d .und fun f => opsA C call ops rest f h K
     | none => opsA C call ops rest f h K
    match f.get t with
    | .bool b => match want with
     | true => br b (f.setK t (.bool true) fun f => stepA C call o f h fun f h => opsA C call ops rest f h K) (f.setK t (.bool false) skip)
     | false => br b (f.setK t (.bool true) skip) (f.setK t (.bool false) fun f => stepA C call o f h fun f h => opsA C call ops rest f h K)
    | .und => skip f
    | _ => False := rfl

/-! ### A region whose order is drawn -/
mutual
def idsV : AV → List Nat
 | .ptr id _ => [id]
 | .csl id _ _ => [id]
 | .optr id _ _ _ _ => [id]
 | .own id _ _ => [id]
 | .osl id _ _ _ => [id]
 | .tosl id _ _ _ => [id]
 | .oth id => [id]
 | .agg cs => idsVs cs
 | .tup cs => idsVs cs
 | .pv cs => idsVs cs
 | .iface _ v => idsV v
 | .fn _ a b => idsVs a ++ idsVs b
 | _ => []
def idsVs : List AV → List Nat
 | [] => []
 | c :: cs => idsV c ++ idsVs cs
end
def memW (o : Oper) : Bool := match o.op with
 | .store _ _ _ => true
 | .call c => match c.callee with
  | .builtin .append => true
  | .builtin .copy => true
  | _ => false
 | _ => false
def memT (o : Oper) : Bool := match o.op with
 | .store _ _ _ => true
 | .load _ _ => true
 | .indexAddr _ _ _ => true
 | .slice _ _ _ _ _ => true
 | .call c => match c.callee with
  | .builtin .len => false
  | .builtin .min => false
  | .builtin .max => false
  | _ => true
 | _ => false
def hasId : List Nat → Nat → Bool
 | [], _ => false
 | x :: xs, n => Nat.beq x n || hasId xs n
def isArr (o : AObj) : Bool := match o with | .arr _ _ _ _ _ => true | _ => false
def arrOnly (o : Oper) : Bool := match o.op with
 | .store _ _ _ => false
 | .load _ _ => false
 | _ => true
def sees (o : Oper) (ρ : Operand → AV) (ob : AObj) : Bool := match o.op with
 | .store _ a _ => (match ρ a with | .ptr _ _ => !isArr ob | _ => true)
 | .load _ a => (match ρ a with | .ptr _ _ => !isArr ob | _ => true)
 | _ => isArr ob
def maskGo (p : AObj → Bool) (ids : List Nat) : Nat → Hp → Hp
 | _, [] => []
 | i, o :: h => (match hasId ids i && p o with | true => o | false => .dead) :: maskGo p ids (i + 1) h
def looks (o : Oper) : List Operand := match o.op with
 | .store _ a _ => [a]
 | _ => o.op.operands.toList
def rawI : AV → List Nat
 | .raw K _ _ => [K]
 | _ => []
def isLd (o : Oper) : Bool := match o.op with | .load _ _ => true | _ => false
def idsM (o : Oper) (v : AV) : List Nat := idsV v ++ (match isLd o with | true => rawI v | false => [])
def rawOk (base : Nat) (ρ : Operand → AV) (o : Oper) : Bool := match o.op with
 | .load _ a => (match ρ a with | .raw K _ _ => Nat.blt K base | _ => true)
 | _ => true
def maskH (o : Oper) (ρ : Operand → AV) (h : Hp) : Hp :=
 match memT o with
 | true => maskGo (sees o ρ) ((looks o).flatMap fun x => idsM o (ρ x)) 0 h
 | false => []
def hasCall : List Oper → Bool
 | [] => false
 | o :: l => (match o.op with
  | .call c => match c.callee with
   | .builtin _ => false
   | _ => true
  | _ => false) || hasCall l
def appFirst (d : Nat) : List Oper → Bool
 | [] => false
 | o :: l => (match o.op with
  | .call c => match c.callee, c.args.toList with
   | .builtin .append, .tmp t :: _ => Nat.beq t d
   | .builtin .copy, .tmp t :: _ => Nat.beq t d
   | _, _ => false
  | _ => false) || appFirst d l
def insArg (d : Nat) : List Oper → Bool
 | [] => false
 | o :: l => (match o.op with
  | .call c => match c.callee, c.args.toList, c.argTypes.toList with
   | .value (.func _), [_, _, .tmp t], [a, _, b] => Nat.beq t d && Nat.beq a b
   | _, _, _ => false
  | _ => false) || insArg d l
def drW (ops : Array Oper) (o : Oper) : Bool :=
 match o.op with
 | .buildSlice _ _ _ => match o.dst with
  | some d => hasCall ops.toList && !(appFirst d ops.toList || insArg d ops.toList)
  | none => false
 | _ => false
def lstV (w : Bool) (nid : Nat) (v : AV) (ob : Option AObj) : Res := match v, ob with
 | .own id g n, some (.arr _ t l _ g') => match Nat.beq id nid, Nat.beq g' g with
  | true, true => (match w with
   | true => (match Nat.beq n l.length with | true => .ok (.lst t l) (some .dead) | false => .bad)
   | false => .need (n = l.length) (.ok (.lst t l) (some .dead)))
  | _, _ => .bad
 | _, _ => .bad
noncomputable def lstR (w : Bool) (nid : Nat) (r : Res) : Res :=
 @Res.rec (fun _ => Res) (fun v ob => lstV w nid v ob) (fun p hp _ ih => @Res.need p hp ih) (fun b _ _ x y => .br b x y) (fun l i _ ih => .idx l i fun x => ih x) .bad r
def sl3 (t : Nat) : List Oper → Bool
 | [] => false
 | o :: l => (match o.op, o.dst with
  | .slice _ _ _ _ (some _), some d => Nat.beq d t
  | _, _ => false) || sl3 t l
def drS (ops : Array Oper) (o : Oper) : Bool := match o.op with
 | .call c => match c.callee, c.args.toList, c.argTypes.toList with
  | .builtin .append, [.tmp s, _], [_, _] => (match o.dst with
   | some d => sl3 s ops.toList && (hasCall ops.toList && !appFirst d ops.toList)
   | none => false)
  | _, _, _ => false
 | _ => false
def tightV : AV → Bool
 | .tlst _ _ => true
 | _ => false
def drA (ops : Array Oper) (ρ : Operand → AV) (o : Oper) : Bool := drS ops o && (match o.op with
 | .call c => match c.args.toList with
  | [s, _] => tightV (ρ s)
  | _ => false
 | _ => false)
def drN (ops : Array Oper) (ρ : Operand → AV) (o : Oper) : Bool := drW ops o || drA ops ρ o
def hasT (t : Nat) (xs : List Operand) : Bool := xs.any fun x => match x with | .tmp a => Nat.beq a t | _ => false
def stoT (t : Nat) : List Oper → Bool
 | [] => false
 | o :: l => (match o.op with | .store _ _ x => hasT t [x] | _ => false) || stoT t l
def toCall (ops : List Oper) (t : Nat) : List Oper → Bool
 | [] => false
 | o :: l => (match o.op, o.dst with
  | .call c, some d => (match c.callee with | .value _ => hasT t c.args.toList && stoT d ops | _ => false)
  | _, _ => false) || toCall ops t l
def inSl (t : Nat) : List Oper → Bool
 | [] => false
 | o :: l => (match o.op with | .buildSlice _ _ es => es.toList.any (fun e => hasT t [e.2]) | _ => false) || inSl t l
def inSt (ops : List Oper) (t : Nat) : List Oper → Bool
 | [] => false
 | o :: l => (match o.op, o.dst with
  | .build _ es, some d => es.toList.any (fun e => hasT t [e.2]) && (inSl d ops || stoT d ops)
  | _, _ => false) || inSt ops t l
def mkSl (t : Nat) : List Oper → Bool
 | [] => false
 | o :: l => (match o.dst with
  | some d => Nat.beq d t && (match o.op with
   | .buildSlice _ _ _ => true
   | .call c => (match c.callee with | .builtin .append => true | _ => false)
   | _ => false)
  | none => false) || mkSl t l
def kS (ops : Array Oper) (o : Oper) : Bool := match o.op with
 | .call c => match c.callee, c.args.toList, c.argTypes.toList with
  | .builtin .append, [.tmp s, _], [_, _] => (match o.dst with
   | some d => mkSl s ops.toList && (toCall ops.toList d ops.toList || inSt ops.toList d ops.toList) && !appFirst d ops.toList
   | none => false)
  | _, _, _ => false
 | _ => false
def ownedV : AV → Bool
 | .own _ _ _ => true
 | _ => false
def drK (ops : Array Oper) (ρ : Operand → AV) (o : Oper) : Bool := kS ops o && (match o.op with
 | .call c => match c.args.toList with
  | [s, _] => ownedV (ρ s)
  | _ => false
 | _ => false)
def drX (ops : Array Oper) (ρ : Operand → AV) (o : Oper) : Bool := drN ops ρ o || drK ops ρ o
noncomputable def opRd (C : Cx) (ops : Array Oper) (h : Hp) (nid : Nat) (ρ : Operand → AV) (o : Oper) : Res :=
 match drX ops ρ o with
 | true => lstR (drW ops o) (posR nid ρ o) (opR C h nid ρ o)
 | false => opR C h nid ρ o
def repK : Nat → (Hp → Prop) → Prop
 | 0, k => k []
 | n + 1, k => repK n fun r => k (.resv :: r)
theorem repK_eq : ∀ (n : Nat) (k : Hp → Prop), repK n k = k (List.replicate n .resv)
 | 0, k => rfl
 | n + 1, k => by rw [repK, repK_eq n]; rfl
def catK : Hp → Hp → (Hp → Prop) → Prop
 | [], g, k => k g
 | o :: h, g, k => catK h g fun r => k (o :: r)
theorem catK_eq : ∀ (h g : Hp) (k : Hp → Prop), catK h g k = k (h ++ g)
 | [], g, k => rfl
 | o :: h, g, k => by rw [catK, catK_eq h g]; rfl
def trimK : Hp → (Hp → Prop) → Prop
 | [], k => k []
 | o :: h, k => trimK h fun r => match r with
  | [] => match o with
   | .resv => k []
   | o => k [o]
  | x :: r => k (o :: x :: r)
def roomK (h : Hp) (n : Nat) (k : Hp → Prop) : Prop := repK n fun g => catK h g k
theorem roomK_eq (h : Hp) (n : Nat) (k : Hp → Prop) : roomK h n k = k (h ++ List.replicate n .resv) := by rw [roomK, repK_eq, catK_eq]
def befGo (acc : List Nat) : List Oper → List Nat
 | [] => acc
 | o :: l => befGo (acc ++ [o.after.toList.foldl (fun m e => if Region.binds .any e then m ||| 2 ^ e.on ||| acc.getD e.on 0 else m) 0]) l
def bar0 (C : Cx) (o : Oper) : Bool := match o.op with
 | .call c => match c.callee with
  | .value (.func g) => match lks C.specs g with
   | some _ => false
   | none => true
  | .value (.tmp _) => true
  | _ => false
 | _ => false
def hasBar0 (C : Cx) : List Oper → Bool
 | [] => false
 | o :: l => bar0 C o || hasBar0 C l
def barsGo0 (C : Cx) (n : Nat) (befs : List Nat) : Nat → List Oper → Bool
 | _, [] => true
 | i, o :: l => (match bar0 C o with
  | true => (List.range i).all (fun m => (befs.getD i 0).testBit m) && (List.range n).all (fun k => Nat.ble k i || (befs.getD k 0).testBit i)
  | false => true) && barsGo0 C n befs (i + 1) l
def barsOk0 (C : Cx) (ops : Array Oper) : Bool := match hasBar0 C ops.toList with
 | true => barsGo0 C ops.size (befGo [] ops.toList) 0 ops.toList
 | false => true
def barO (C : Cx) (ops : Array Oper) (o : Oper) : Bool := match o.op with
 | .call c => match c.callee with
  | .value (.func g) => match lks C.specs g with
   | some _ => false
   | none => true
  | .value (.tmp _) => barsOk0 C ops
  | _ => false
 | _ => false
noncomputable def drawGo (C : Cx) (bs : Oper → Tr → Hp → (Tr → Hp → Prop) → Prop) (ops : Array Oper) (base i : Nat) (l : List Oper) : Tr → Hp → (Tr → Hp → Prop) → Prop :=
 @List.rec Oper (fun _ => Nat → Nat → Tr → Hp → (Tr → Hp → Prop) → Prop)
  (fun _ _ f h K => trimK h fun h => K f h)
  (fun o rest ih base i f h K =>
  let run : Tr → Prop := fun f => match rawOk base (ev f.get) o with
  | false => False
  | true => (opRd C ops (maskH o (ev f.get) h) (base + i) (ev f.get) o).sat fun v ob =>
   match ob with
   | none => (match o.dst with
    | some d => force v fun v => f.setK d v fun f => ih base (i + 1) f h K
    | none => ih base (i + 1) f h K)
   | some ob => forceO ob fun ob => putK h (posR (base + i) (ev f.get) o) ob fun h => (match o.dst with
    | some d => force v fun v => f.setK d v fun f => ih base (i + 1) f h K
    | none => ih base (i + 1) f h K)
  let skip : Tr → Prop := fun f => match o.dst with
   | some d => f.setK d .und fun f => ih base (i + 1) f h K
   | none => ih base (i + 1) f h K
  match barO C ops o with
  | true => trimK h fun h => bs o f h fun f h => lenK h fun b => roomK h ops.size fun h => ih b (i + 1) f h K
  | false => match o.guard with
   | none => run f
   | some (j, want) => match (ops[j]?).bind (·.dst) with
    | none => False
    | some t => match f.get t with
     | .bool b => match want with
      | true => br b (f.setK t (.bool true) run) (f.setK t (.bool false) skip)
      | false => br b (f.setK t (.bool true) skip) (f.setK t (.bool false) run)
     | .und => skip f
     | _ => False)
  l base i
theorem drawGo_cons (C : Cx) (bs : Oper → Tr → Hp → (Tr → Hp → Prop) → Prop) (ops : Array Oper) (base i : Nat) (o : Oper) (rest : List Oper) (f : Tr) (h : Hp) (K : Tr → Hp → Prop) : drawGo C bs ops base i (o :: rest) f h K =
  (
  let run : Tr → Prop := fun f => match rawOk base (ev f.get) o with
  | false => False
  | true => (opRd C ops (maskH o (ev f.get) h) (base + i) (ev f.get) o).sat fun v ob =>
   match ob with
   | none => (match o.dst with
    | some d => force v fun v => f.setK d v fun f => drawGo C bs ops base (i + 1) rest f h K
    | none => drawGo C bs ops base (i + 1) rest f h K)
   | some ob => forceO ob fun ob => putK h (posR (base + i) (ev f.get) o) ob fun h => (match o.dst with
    | some d => force v fun v => f.setK d v fun f => drawGo C bs ops base (i + 1) rest f h K
    | none => drawGo C bs ops base (i + 1) rest f h K)
  let skip : Tr → Prop := fun f => match o.dst with
   | some d => f.setK d .und fun f => drawGo C bs ops base (i + 1) rest f h K
   | none => drawGo C bs ops base (i + 1) rest f h K
  match barO C ops o with
  | true => trimK h fun h => bs o f h fun f h => lenK h fun b => roomK h ops.size fun h => drawGo C bs ops b (i + 1) rest f h K
  | false => match o.guard with
   | none => run f
   | some (j, want) => match (ops[j]?).bind (·.dst) with
    | none => False
    | some t => match f.get t with
     | .bool b => match want with
      | true => br b (f.setK t (.bool true) run) (f.setK t (.bool false) skip)
      | false => br b (f.setK t (.bool true) skip) (f.setK t (.bool false) run)
     | .und => skip f
     | _ => False) := rfl
def namesO (ops : Array Oper) (o : Oper) : List Nat :=
  o.dst.toList ++ (o.op.operands.toList.filterMap (fun | .tmp t => some t | _ => none) ++
  (match o.guard with
   | some (g, _) => ((ops[g]?).bind (·.dst)).toList
   | none => []))
def confM (mc : Oper → Oper → Bool) (ops : Array Oper) (x y : Oper) : Bool :=
 (match x.dst with | some d => hasId (namesO ops y) d | none => false) || (match y.dst with | some d => hasId (namesO ops x) d | none => false) || (memW x && memT y && mc x y) || (memT x && memW y && mc y x)
def edgesOk (i : Nat) (o : Oper) : Bool :=
  (o.after.toList.all fun e => !Region.binds .any e || Nat.blt e.on i) &&
  (match o.guard with
   | some (j, _) => o.after.toList.any fun e => Nat.beq e.on j && Region.binds .any e
   | none => true)
def pairsGo (mc : Oper → Oper → Bool) (ops : Array Oper) (bef : Nat) (o : Oper) : Nat → List Oper → Bool
 | _, [] => true
 | i, x :: l => (bef.testBit i || !confM mc ops x o) && pairsGo mc ops bef o (i + 1) l
def drawOkGo (mc : Oper → Oper → Bool) (ops : Array Oper) (befs : List Nat) (done : List Oper) : Nat → List Oper → Bool
 | _, [] => true
 | i, o :: l => edgesOk i o && pairsGo mc ops (befs.getD i 0) o 0 done && drawOkGo mc ops befs (done ++ [o]) (i + 1) l
def hasBar (C : Cx) (ops : Array Oper) : List Oper → Bool
 | [] => false
 | o :: l => barO C ops o || hasBar C ops l
def barsGo (C : Cx) (ops : Array Oper) (n : Nat) (befs : List Nat) : Nat → List Oper → Bool
 | _, [] => true
 | i, o :: l => (match barO C ops o with
  | true => (List.range i).all (fun m => (befs.getD i 0).testBit m) && (List.range n).all (fun k => Nat.ble k i || (befs.getD k 0).testBit i)
  | false => true) && barsGo C ops n befs (i + 1) l
def barsOk (C : Cx) (ops : Array Oper) : Bool := match hasBar C ops ops.toList with
 | true => barsGo C ops ops.size (befGo [] ops.toList) 0 ops.toList
 | false => true
def drawOkM (mc : Oper → Oper → Bool) (ops : Array Oper) : Bool := drawOkGo mc ops (befGo [] ops.toList) [] 0 ops.toList
def drawOk (ops : Array Oper) : Bool := drawOkM (fun _ _ => true) ops
def stores : List Oper → Nat
 | [] => 0
 | o :: l => match memW o with
  | true => stores l + 1
  | false => stores l
def memPairs (bef : Nat) (o : Oper) : Nat → List Oper → Bool
 | _, [] => true
 | i, x :: l => (bef.testBit i || !((memW x && memT o) || (memT x && memW o))) && memPairs bef o (i + 1) l
def memGo (befs : List Nat) (done : List Oper) : Nat → List Oper → Bool
 | _, [] => true
 | i, o :: l => (match memT o || memW o with | true => memPairs (befs.getD i 0) o 0 done | false => true) && memGo befs (done ++ [o]) (i + 1) l
def manyS (ops : Array Oper) : Bool := match stores ops.toList with
 | 0 => false
 | 1 => !memGo (befGo [] ops.toList) [] 0 ops.toList
 | _ => true
def wrs (a : Nat) : List Oper → List Oper
 | [] => []
 | o :: l => (match o.dst with | some d => (match Nat.beq d a with | true => [o] | false => []) | none => []) ++ wrs a l
def tmpOf (x : Operand) : Option Nat := match x with | .tmp b => some b | _ => none
def chainO (o : Oper) : Option Nat := match o.op with
 | .fieldAddr _ x _ => tmpOf x
 | .nilCheck x => tmpOf x
 | .move x => tmpOf x
 | _ => none
def ptrOf (v : AV) : Option Nat := match v with
 | .ptr id _ => some id
 | .optr id _ _ _ _ => some id
 | _ => none
def shapeOk (id : Nat) (v : AV) : Bool := match v with
 | .any => true
 | .und => true
 | .ptr id' _ => Nat.beq id' id
 | .optr id' _ _ _ _ => Nat.beq id' id
 | _ => false
def slotId (f : Tr) (ops : List Oper) : Nat → Nat → Option Nat
 | 0, _ => none
 | n + 1, a => match wrs a ops with
  | [] => ptrOf (f.get a)
  | [o] => match chainO o with
   | some b => match slotId f ops n b with
    | some id => match shapeOk id (f.get a) with | true => some id | false => none
    | none => none
   | none => none
  | _ => none
def slotA (o : Oper) : Option Nat := match o.op with
 | .store _ a _ => match a with
  | .tmp a => some a
  | _ => none
 | .load _ a => match a with
  | .tmp a => some a
  | _ => none
 | _ => none
def ptrId (f : Tr) (ops : Array Oper) (o : Oper) : Option Nat := match slotA o with
 | some a => slotId f ops.toList 6 a
 | none => none
def slotC (f : Tr) (ops : List Oper) : Nat → Nat → Bool
 | 0, _ => false
 | n + 1, a => match wrs a ops with
  | [] => (match f.get a with | .ptr _ _ => true | _ => false)
  | [o] => match chainO o with
   | some b => slotC f ops n b && (match f.get a with | .any => true | .und => true | .ptr _ _ => true | _ => false)
   | none => false
  | _ => false
def cellW (f : Tr) (ops : Array Oper) (o : Oper) : Bool := match slotA o with
 | some a => slotC f ops.toList 6 a
 | none => false
def appO (o : Oper) : Bool := match o.op with
 | .call c => match c.callee, c.args.toList, c.argTypes.toList with
  | .builtin .append, [_, _], [_, _] => true
  | .builtin .copy, [_, _], [_, _] => true
  | _, _, _ => false
 | _ => false
def mcF (f : Tr) (ops : Array Oper) (x y : Oper) : Bool := match ptrId f ops x, ptrId f ops y with
 | some a, some b => Nat.beq a b
 | _, _ => !((cellW f ops x && arrOnly y) || (appO x && !(drS ops x || kS ops x) && cellW f ops y))
def stepP (tb : Tb) (o : Oper) : Option (Nat × Nat) := match o.op with
 | .fieldAddr T x k => match tmpOf x, lk tb T with
  | some b, some ti => match ti.kind with
   | .st fs => match fs[k]? with
    | some (_, off) => some (b, off)
    | none => none
   | _ => none
  | _, _ => none
 | .nilCheck x => match tmpOf x with
  | some b => some (b, 0)
  | none => none
 | .move x => match tmpOf x with
  | some b => some (b, 0)
  | none => none
 | _ => none
def shapeP (id off : Nat) (v : AV) : Bool := match v with
 | .any => true
 | .und => true
 | .ptr id' off' => Nat.beq id' id && Nat.beq off' off
 | _ => false
def slotP (tb : Tb) (f : Tr) (ops : List Oper) : Nat → Nat → Option (Nat × Nat)
 | 0, _ => none
 | n + 1, a => match wrs a ops with
  | [] => (match f.get a with | .ptr id off => some (id, off) | _ => none)
  | [o] => match stepP tb o with
   | some (b, d) => match slotP tb f ops n b with
    | some (id, off) => match shapeP id (off + d) (f.get a) with | true => some (id, off + d) | false => none
    | none => none
   | none => none
  | _ => none
def prtS (tb : Tb) (f : Tr) (h : Hp) (ops : Array Oper) (o : Oper) : Option (Nat × Nat × Nat) := match o.op with
 | .store T a _ => match a with
  | .tmp a => match slotP tb f ops.toList 6 a with
   | some (id, off) => match lk tb T, h[id]? with
    | some ti, some (.cells _ cs) => match Nat.ble (off + ti.size) cs.length with
     | true => some (id, off, ti.size)
     | false => none
    | _, _ => none
   | none => none
  | _ => none
 | _ => none
def apart (o n p m : Nat) : Bool := Nat.ble (o + n) p || Nat.ble (p + m) o
def mcP (tb : Tb) (f : Tr) (h : Hp) (ops : Array Oper) (x y : Oper) : Bool := match prtS tb f h ops x, prtS tb f h ops y with
 | some (a, o, n), some (b, p, m) => Nat.beq a b && !apart o n p m
 | _, _ => mcF f ops x y
def writesT (t : Nat) : List Oper → Bool
 | [] => false
 | o :: l => (match o.dst with | some d => Nat.beq d t | none => false) || writesT t l
def ssaO (o : Oper) (l : List Oper) : Bool := o.op.operands.toList.all fun x => match x with | .tmp t => !writesT t l | _ => true
def ssaGo : List Oper → Bool
 | [] => true
 | o :: l => (!memT o || ssaO o (o :: l)) && ssaGo l
def posE (g : Nat → AV) (x : Oper) : Option Nat := match x.op with
 | .store _ a _ => ptrOf (ev g a)
 | .call c => match c.callee, c.args.toList, c.argTypes.toList with
  | .builtin .append, [s, _], [_, _] => (match ev g s with | .own id _ _ => some id | _ => none)
  | .builtin .copy, [s, _], [_, _] => (match ev g s with | .own id _ _ => some id | .osl id _ _ _ => some id | _ => none)
  | _, _, _ => none
 | _ => none
def seesE (g : Nat → AV) (id : Nat) : List Operand → Bool
 | [] => false
 | x :: l => hasId (idsV (ev g x) ++ rawI (ev g x)) id || seesE g id l
def mcE (ops : Array Oper) (g : Nat → AV) (x y : Oper) : Bool := match drN ops (ev g) x with
 | true => false
 | false => match posE g x with
  | some id => seesE g id (looks y)
  | none => true
noncomputable def drawC (C : Cx) (bs : Oper → Tr → Hp → (Tr → Hp → Prop) → Prop) (ops : Array Oper) (f : Tr) (h : Hp) (K : Tr → Hp → Prop) : Prop :=
 match manyS ops, hasBar C ops ops.toList with
 | true, true => (match drawOk ops && barsOk C ops with
  | true => lenK h fun b => roomK h ops.size fun h => drawGo C bs ops b 0 ops.toList f h K
  | false => False)
 | true, false => (match drawOkM (mcP C.tb f h ops) ops with
  | true => lenK h fun b => roomK h ops.size fun h => drawGo C bs ops b 0 ops.toList f h K
  | false => match ssaGo ops.toList with
   | true => lenK h fun b => roomK h ops.size fun h => drawGo C bs ops b 0 ops.toList f h fun f h => match drawOkM (mcE ops f.get) ops with | true => K f h | false => False
   | false => False)
 | false, _ => (match barsOk C ops with
  | true => lenK h fun b => roomK h ops.size fun h => drawGo C bs ops b 0 ops.toList f h K
  | false => False)
def anyArr : Hp → Bool
 | [] => false
 | .arr _ _ _ _ _ :: _ => true
 | _ :: h => anyArr h
inductive drawP (P : Tr → Hp → Prop) (f : Tr) (h : Hp) : Prop where
 | mk (nz : List NZ) (hh : normK nz f h P) : drawP P f h
noncomputable def drawB (C : Cx) (bs : Oper → Tr → Hp → (Tr → Hp → Prop) → Prop) (ops : Array Oper) (f : Tr) (h : Hp) (K : Tr → Hp → Prop) : Prop :=
 match hasCall ops.toList && anyArr h with
 | true => drawP (fun f h => drawC C bs ops f h K) f h
 | false => drawC C bs ops f h K
/-! ### Regions of several calls that are walked through: every order is looked at -/
def pureO (o : Oper) : Bool := match o.op, o.guard, o.dst with
 | .move _, none, some _ => true
 | .fieldAddr _ _ _, none, some _ => true
 | .assign _, none, some _ => true
 | .nilCheck _, none, some _ => true
 | .extract _ _, none, some _ => true
 | .indexAddr _ _ _, none, some _ => true
 | _, _, _ => false
def rdyGo (done : List Nat) : Nat → List Oper → List Nat
 | _, [] => []
 | i, o :: l => match !hasId done i && (o.after.toList.all fun e => !Region.binds .any e || hasId done e.on) with
  | true => i :: rdyGo done (i + 1) l
  | false => rdyGo done (i + 1) l
def freeGo (ops : Array Oper) (done : List Nat) (i : Nat) (oi : Oper) : Nat → List Oper → Bool
 | _, [] => true
 | j, o :: l => (Nat.beq j i || hasId done j || (o.after.toList.any fun e => Region.binds .any e && Nat.beq e.on i) || oi.apart ops o) && freeGo ops done i oi (j + 1) l
def noSelL : List Oper → Bool
 | [] => true
 | o :: l => (match o.op with | .select _ _ => false | _ => true) && noSelL l
def firstP (ops : Array Oper) (done : List Nat) : List Nat → Option (Nat × Oper)
 | [] => none
 | i :: l => match ops[i]? with
  | some o => match pureO o && freeGo ops done i o 0 ops.toList with
   | true => some (i, o)
   | false => firstP ops done l
  | none => firstP ops done l
def pureK (tb : Tb) (o : Oper) (f : Tr) (K : Tr → Prop) : Prop := match o.op, o.dst with
 | .move x, some d => force (ev f.get x) fun v => f.setK d v K
 | .fieldAddr T x i, some d => match ev f.get x with
  | .ptr id o => match pFieldAddr tb T (.ptr id o) i with
   | .ok (.ptr id' o') none => fN id' fun id' => fN o' fun o' => f.setK d (.ptr id' o') K
   | _ => False
  | _ => False
 | .assign x, some d => force (ev f.get x) fun v => f.setK d v K
 | .nilCheck x, some d => match ev f.get x with
  | .ptr id o => fN id fun id => fN o fun o => f.setK d (.ptr id o) K
  | .raw i b o => fN i fun i => fN o fun o => f.setK d (.raw i b o) K
  | _ => False
 | .extract x i, some d => match ev f.get x with
  | .tup vs => (match vs[i]? with
   | some v => force v fun v => f.setK d v K
   | none => False)
  | _ => False
 | .indexAddr T x i, some d => match ev f.get x, ev f.get i with
  | .csl id m _, .int _ n => match lk tb T with
   | some ti => match ti.kind with
    | .sl e => match lk tb e with
     | some te => need (0 ≤ n ∧ n < m) (fN id fun id => fN (n.toNat * te.size) fun j => f.setK d (.ptr id j) K)
     | none => False
    | _ => False
   | none => False
  | _, _ => False
 | _, _ => False
inductive both (A B : Prop) : Prop where
 | mk (a : A) (b : B) : both A B
def atI (ops : Array Oper) (K : Nat → Oper → Prop) (i : Nat) : Prop := match ops[i]? with
 | some o => K i o
 | none => False
def allI (ops : Array Oper) (K : Nat → Oper → Prop) : List Nat → Prop
 | [] => True
 | i :: l => match l with
  | [] => atI ops K i
  | _ => both (atI ops K i) (allI ops K l)
noncomputable def planA (C : Cx) (call : CallA) (ops : Array Oper) (n : Nat) : List Nat → Tr → Hp → (Tr → Hp → Prop) → Prop :=
 @Nat.rec (fun _ => List Nat → Tr → Hp → (Tr → Hp → Prop) → Prop)
  (fun done f h K => match rdyGo done 0 ops.toList with | [] => K f h | _ => False)
  (fun _ ih done f h K => match rdyGo done 0 ops.toList with
   | [] => K f h
   | i :: l => match firstP ops done (i :: l) with
    | some (j, o) => pureK C.tb o f fun f => ih (j :: done) f h K
    | none => allI ops (fun j o => opsA C call ops [o] f h fun f h => ih (j :: done) f h K) (i :: l)) n
theorem planA_succ (C : Cx) (call : CallA) (ops : Array Oper) (n : Nat) (done : List Nat) (f : Tr) (h : Hp) (K : Tr → Hp → Prop) : planA C call ops (n + 1) done f h K =
  match rdyGo done 0 ops.toList with
   | [] => K f h
   | i :: l => match firstP ops done (i :: l) with
    | some (j, o) => pureK C.tb o f fun f => planA C call ops n (j :: done) f h K
    | none => allI ops (fun j o => opsA C call ops [o] f h fun f h => planA C call ops n (j :: done) f h K) (i :: l) := rfl
def edgesIn (ops : Array Oper) : Bool := ops.toList.all fun o => o.after.toList.all fun e => !Region.binds .any e || decide (e.on < ops.size)
def planO (C : Cx) (ops : Array Oper) : Bool := match hasBar C ops ops.toList with
 | true => !barsOk C ops && (noSelL ops.toList && edgesIn ops)
 | false => false
noncomputable def drawA (C : Cx) (call : CallA) (ops : Array Oper) (f : Tr) (h : Hp) (K : Tr → Hp → Prop) : Prop :=
 match planO C ops with
 | true => planA C call ops ops.size [] f h K
 | false => drawB C (fun o f h K => opsA C call ops [o] f h K) ops f h K
def cntBar (C : Cx) : List Oper → Nat
 | [] => 0
 | o :: l => match bar0 C o with
  | true => cntBar C l + 1
  | false => cntBar C l
def ownMv (f : Tr) : List Oper → Bool
 | [] => false
 | o :: l => (match o.op with
  | .move (.tmp t) => (match f.get t with | .own _ _ _ => true | _ => false)
  | _ => false) || ownMv f l
noncomputable def regA (C : Cx) (call : CallA) (ops : Array Oper) (f : Tr) (h : Hp) (K : Tr → Hp → Prop) : Prop :=
 match Nat.ble 2 (cntBar C ops.toList) && ownMv f ops.toList with
 | true => drawP (fun f h => opsA C call ops ops.toList f h K) f h
 | false => opsA C call ops ops.toList f h K
def asg : Code → List Nat
 | .region _ ops _ => ops.toList.filterMap (·.dst)
 | .seq a b => asg a ++ asg b
 | .cond _ a b => asg a ++ asg b
 | .block _ c => asg c
 | .loop c => asg c
 | .scope c => asg c
 | _ => []
def eraseK : Tr → List Nat → (Tr → Prop) → Prop
 | f, [], k => k f
 | f, n :: ns, k => f.setK n .any fun f => eraseK f ns k
def erase : Tr → List Nat → Tr
 | f, [] => f
 | f, n :: ns => erase (f.set n .any) ns
def setsK : Tr → List Nat → List AV → (Tr → Prop) → Prop
 | f, n :: ns, v :: vs, k => f.setK n v fun f => setsK f ns vs k
 | f, _, _, k => k f
def cutOk (L : Nat) (vs : List AV) (h : Hp) : Bool := (idsVs vs).all (fun n => Nat.blt n L) && (h.take L).all (fun | .cells _ cs => (idsVs cs).all (fun n => Nat.blt n L) | _ => true)
def turns : Nat → ((Tr → Hp → Prop) → Tr → Hp → Prop) → Tr → Hp → Prop
 | 0, _, _, _ => False
 | n + 1, body, f, h => body (fun f h => turns n body f h) f h
def viewB (L : Nat) (h : Hp) (v : AV) : AV := match v with
 | .own id g n => match Nat.ble L id, h[id]? with
  | true, some (.arr _ t l _ g') => match Nat.beq g' g with | true => .lst t (l.take n) | false => .own id g n
  | _, _ => .own id g n
 | v => v
inductive backQ (ms cs : List Nat) (f0 : Tr) (L : Nat) (J : List AV → Hp → Prop) (μ : List AV → Hp → Nat) (m : Nat) (f2 : Tr) (h2 : Hp) : Prop where
 | mk (h1 : erase f2 ms = f0) (h3 : cutOk L (cs.map fun c => viewB L h2 (f2.get c)) h2 = true) (hJ : J (cs.map fun c => viewB L h2 (f2.get c)) (h2.take L)) (hm : μ (cs.map fun c => viewB L h2 (f2.get c)) (h2.take L) < m) : backQ ms cs f0 L J μ m f2 h2
inductive backP (ms cs : List Nat) (f0 : Tr) (L : Nat) (J : List AV → Hp → Prop) (μ : List AV → Hp → Nat) (m : Nat) (f2 : Tr) (h2 : Hp) : Prop where
 | mk (nz : List NZ) (h : normK nz f2 h2 fun f2 h2 => backQ ms cs f0 L J μ m f2 h2) : backP ms cs f0 L J μ m f2 h2
inductive loopP (ms : List Nat) (body : (Tr → Hp → Prop) → Tr → Hp → Prop) (f : Tr) (h : Hp) : Prop where
 | mk (hh : (∃ n, turns n body f h) ∨
 ∃ (nz : List NZ) (cs : List Nat) (J : List AV → Hp → Prop) (μ : List AV → Hp → Nat), normK nz f h fun f h => J (cs.map f.get) h ∧
  ∀ vs h', vs.length = cs.length → J vs h' →
   eraseK f ms fun f0 => setsK f0 cs vs fun f1 => body (fun f2 h2 => backP ms cs f0 h.length J μ (μ vs h') f2 h2) f1 h') : loopP ms body f h
def lastD : List Oper → Option (List Oper × Oper)
 | [] => none
 | o :: l => match l with
  | [] => match o.op with
   | .defer _ => some ([], o)
   | _ => none
  | o' :: l' => match lastD (o' :: l') with
   | some (p, d) => some (o :: p, d)
   | none => none
def hasD : Code → Bool
 | .region _ ops _ => match lastD ops.toList with | some _ => true | none => false
 | .seq a b => hasD a || hasD b
 | .cond _ a b => hasD a || hasD b
 | .block _ c => hasD c
 | .loop c => hasD c
 | .scope c => hasD c
 | _ => false
def dfrM (tb : Tb) (f : Tr) (h : Hp) (o : Oper) : Option Nat := match o.op, o.guard, o.dst with
 | .defer c, none, none => match c.callee, c.args.toList, c.argTypes.toList with
  | .builtin .clear, [x], [T] => match ev f.get x, lk tb T with
   | .oth id, some _ => match h[id]? with
    | some (.oth (.map _ _ _ _)) => some id
    | _ => none
   | _, _ => none
  | _, _, _ => none
 | _, _, _ => none
def noDead : Hp → Bool
 | [] => true
 | o :: h => (match o with | .dead => false | _ => true) && noDead h
def plainR : Code → Bool
 | .skip => true
 | .region _ ops d => !d && ops.toList.all (fun o => match o.op with | .defer _ => false | _ => true)
 | .seq a b => plainR a && plainR b
 | .cond _ a b => plainR a && plainR b
 | .block _ c => plainR c
 | .exit _ => true
 | .ret => true
 | _ => false
inductive backR (J : Nat → Hp → Prop) (k L : Nat) (f2 : Tr) (h2 : Hp) : Prop where
 | mk (nz : List NZ) (hh : normK nz f2 h2 fun _ h2 => cutOk L [] h2 = true ∧ J (k + 1) (h2.take L)) : backR J k L f2 h2
inductive rangeQ (sp : ISpec) (caps : List AV) (p : Nat) (body : (Tr → Hp → Prop) → (Nat → Tr → Hp → Prop) → (Tr → Hp → Prop) → Tr → Hp → Prop) (K : Tr → Hp → Prop) (X : Nat → Tr → Hp → Prop) (Rt : Tr → Hp → Prop) (f : Tr) (h : Hp) : Prop where
 | mk (pr : Prop) (r : IRes) (J : Nat → Hp → Prop) (hsp : sp h caps = some (pr, r)) (hp : pr) (h0 : J 0 h)
  (hb : ∀ k x h', r.l[k]? = some x → J k h' → f.setK p (avV r.t x) fun f1 => body (fun f2 h2 => backR J k h.length f2 h2) (fun i _ h2 => X i f h2) (fun _ h2 => Rt f h2) f1 h')
  (hK : ∀ h', J r.l.length h' → K f h') : rangeQ sp caps p body K X Rt f h
inductive rangeP (sp : ISpec) (caps : List AV) (p : Nat) (body : (Tr → Hp → Prop) → (Nat → Tr → Hp → Prop) → (Tr → Hp → Prop) → Tr → Hp → Prop) (K : Tr → Hp → Prop) (X : Nat → Tr → Hp → Prop) (Rt : Tr → Hp → Prop) (f : Tr) (h : Hp) : Prop where
 | mk (nz : List NZ) (hh : normK nz f h fun f h => rangeQ sp caps p body K X Rt f h) : rangeP sp caps p body K X Rt f h
noncomputable def codeA (C : Cx) (call : CallA) (c : Code) : (Tr → Hp → Prop) → (Nat → Tr → Hp → Prop) → (Tr → Hp → Prop) → Tr → Hp → Prop :=
 @Code.rec (fun _ => (Tr → Hp → Prop) → (Nat → Tr → Hp → Prop) → (Tr → Hp → Prop) → Tr → Hp → Prop)
  (fun K _ _ f h => K f h)
  (fun _ ops d K _ _ f h => match d with
   | false => (match lastD ops.toList with
    | none => regA C call ops f h K
    | some (pre, o) => opsA C call ops pre f h fun f h => match dfrM C.tb f h o with | some _ => K f h | none => False)
   | true => drawA C call ops f h K)
  (fun _ _ iha ihb K X Rt f h => iha (fun f h => ihb K X Rt f h) X Rt f h)
  (fun c _ _ iha ihb K X Rt f h => match ev f.get c with
   | .bool t => br t (iha K X Rt f h) (ihb K X Rt f h)
   | _ => False)
  (fun id _ ih K X Rt f h => ih K (fun i => match Nat.beq i id with | true => K | false => X i) Rt f h)
  (fun c ih _ X Rt f h => loopP (asg c) (fun K f h => ih K X Rt f h) f h)
  (fun g ps asn bd iha ihb K X Rt f h => match ev f.get g, ps.toList, plainR asn && plainR bd with
   | .fn (.func gf) [] caps, [p], true => (match lks C.specs gf with
    | some (.i sp) => rangeP sp caps p (fun K X Rt f h => iha (fun f h => ihb K X Rt f h) (fun _ _ _ => False) (fun _ _ => False) f h) K X Rt f h
    | _ => False)
   | _, _, _ => False)
  (fun id _ X _ f h => X id f h)
  (fun _ ih K X Rt f h => ih K X Rt f h)
  (fun _ K _ _ f h => K f h)
  (fun _ _ _ _ _ _ => False)
  (fun _ _ Rt f h => Rt f h)
  (fun _ _ _ _ _ _ => False) c
theorem codeA_cond (C : Cx) (call : CallA) (c : Operand) (a b : Code) (K : Tr → Hp → Prop) (X : Nat → Tr → Hp → Prop) (Rt : Tr → Hp → Prop) (f : Tr) (h : Hp) : codeA C call (.cond c a b) K X Rt f h = match ev f.get c with
  | .bool t => br t (codeA C call a K X Rt f h) (codeA C call b K X Rt f h)
  | _ => False := rfl
theorem codeA_block (C : Cx) (call : CallA) (id : Nat) (c : Code) (K : Tr → Hp → Prop) (X : Nat → Tr → Hp → Prop) (Rt : Tr → Hp → Prop) (f : Tr) (h : Hp) : codeA C call (.block id c) K X Rt f h = codeA C call c K (fun i => match Nat.beq i id with | true => K | false => X i) Rt f h := rfl
theorem codeA_loop (C : Cx) (call : CallA) (c : Code) (K : Tr → Hp → Prop) (X : Nat → Tr → Hp → Prop) (Rt : Tr → Hp → Prop) (f : Tr) (h : Hp) : codeA C call (.loop c) K X Rt f h = loopP (asg c) (fun K f h => codeA C call c K X Rt f h) f h := rfl
theorem codeA_range (C : Cx) (call : CallA) (g : Operand) (ps : Array Tmp) (asn bd : Code) (K : Tr → Hp → Prop) (X : Nat → Tr → Hp → Prop) (Rt : Tr → Hp → Prop) (f : Tr) (h : Hp) : codeA C call (.rangeFunc g ps asn bd) K X Rt f h = match ev f.get g, ps.toList, plainR asn && plainR bd with
   | .fn (.func gf) [] caps, [p], true => (match lks C.specs gf with
    | some (.i sp) => rangeP sp caps p (fun K X Rt f h => codeA C call asn (fun f h => codeA C call bd K X Rt f h) (fun _ _ _ => False) (fun _ _ => False) f h) K X Rt f h
    | _ => False)
   | _, _, _ => False := rfl
theorem codeA_reg (C : Cx) (call : CallA) (id : Nat) (ops : Array Oper) (K : Tr → Hp → Prop) (X : Nat → Tr → Hp → Prop) (Rt : Tr → Hp → Prop) (f : Tr) (h : Hp) : codeA C call (.region id ops false) K X Rt f h = match lastD ops.toList with
    | none => regA C call ops f h K
    | some (pre, o) => opsA C call ops pre f h fun f h => match dfrM C.tb f h o with | some _ => K f h | none => False := rfl
theorem codeA_scope (C : Cx) (call : CallA) (c : Code) (K : Tr → Hp → Prop) (X : Nat → Tr → Hp → Prop) (Rt : Tr → Hp → Prop) (f : Tr) (h : Hp) : codeA C call (.scope c) K X Rt f h = codeA C call c K X Rt f h := rfl
def retD (tb : Tb) (rs : List ResultVar) (f : Tr) (h : Hp) (K : AV → Hp → Prop) : Prop := match noDead h with
 | true => retA tb rs f h fun v _ => ∀ h', K v h'
 | false => False
noncomputable def bodyA (C : Cx) (call : CallA) (fn : Func) (args : List AV) (h : Hp) (K : AV → Hp → Prop) : Prop :=
 match fn.body, Nat.ble args.length fn.ntmps with
 | some c, true => (match hasD c with
  | false => initK (Tr.mk (depthOf fn.ntmps)) 0 args fun f => codeA C call c (fun f h => retA C.tb fn.results.toList f h K) (fun _ _ _ => False) (fun f h => retA C.tb fn.results.toList f h K) f h
  | true => initK (Tr.mk (depthOf fn.ntmps)) 0 args fun f => codeA C call c (fun f h => retD C.tb fn.results.toList f h K) (fun _ _ _ => False) (fun f h => retD C.tb fn.results.toList f h K) f h)
 | _, _ => False
end Av
