/-
  An abstract reading of values and memory: what each operation is reckoned to give.
-/
import Derived.Test.YtjinjnakedhmdaaAv4
namespace Av
open Go

/-! ### Numbers and strings -/
def inR : IntKind → Int → Prop
  | .i8, n => -128 ≤ n ∧ n ≤ 127
  | .i16, n => -32768 ≤ n ∧ n ≤ 32767
  | .i32, n => -2147483648 ≤ n ∧ n ≤ 2147483647
  | .i64, n => -9223372036854775808 ≤ n ∧ n ≤ 9223372036854775807
  | .u8, n => 0 ≤ n ∧ n ≤ 255
  | .u16, n => 0 ≤ n ∧ n ≤ 65535
  | .u32, n => 0 ≤ n ∧ n ≤ 4294967295
  | .u64, n => 0 ≤ n ∧ n ≤ 18446744073709551615
instance (k : IntKind) (n : Int) : Decidable (inR k n) := by cases k <;> exact instDecidableAnd
def sEq (a b : ByteArray) : Bool := a.data.toList == b.data.toList
def sLt (a b : ByteArray) : Bool := Op.bytesLess a.data.toList b.data.toList

mutual
/-- Whether two data are equal, as == says it. -/
def eqT : (t : Ty) → t.El → t.El → Bool
  | .bool, (a : Bool), b => a == b
  | .int _, (a : Int), b => a == b
  | .str, a, b => sEq a b
  | .sl _, _, _ => false
  | .ifc _ _, _, _ => false
  | .st fs, a, b => eqTs fs a b
def eqTs : (ts : List Ty) → Ty.Els ts → Ty.Els ts → Bool
  | [], _, _ => true
  | [t], a, b => eqT t a.1 b.1
  | t :: ts, a, b => eqT t a.1 b.1 && eqTs ts a.2 b.2
end
mutual
/-- Whether data of a type can be compared. -/
def Ty.flatEq : Ty → Bool
  | .sl _ => false
  | .ifc _ _ => false
  | .st fs => Ty.flatEqs fs
  | _ => true
def Ty.flatEqs : List Ty → Bool
  | [] => true
  | t :: ts => Ty.flatEq t && Ty.flatEqs ts
end

/-! ### Operations -/
def avOf : Value → AV
  | .bool b => .bool b
  | .int k n => .int k n
  | .string s => .str s
  | .pointer none => .nilp
  | .slice none 0 0 => .nsl
  | .nilFunc => .nilfn
  | .nilIface => .nili
  | .map none => .nilm
  | _ => .any
def ev (get : Nat → AV) : Operand → AV
  | .tmp t => get t
  | .const v => avOf v
  | .func f => .fn (.func f) [] []
  | .global _ => .any

def okO (x : Option AV) : Res := match x with | some v => .ok v none | none => .bad
/-- The value of a type at the head of some cells. -/
def ldA (ti : TI) (cs : List AV) : Option AV :=
  match isRowK ti.kind with
  | true => bif Nat.ble ti.size cs.length then some (.agg (cs.take ti.size)) else none
  | false => match cs with | c :: _ => some c | [] => none

def pNil (tb : Tb) (nid : Nat) (T : TypeId) : Res :=
  match lk tb T with
  | some ti => match ti.kind with
    | .sl e => match lk tb e with
      | some te => match te.code with
        | some t => .ok (.own nid 0 0) (some (.arr e t [] false 0))
        | none => .ok .nsl none
      | none => .ok .nsl none
    | _ => .bad
  | none => .bad
def pMove (tb : Tb) (nid : Nat) (T : TypeId) (v : AV) : Res := match v with
  | .nsl => pNil tb nid T
  | .any => .bad
  | v => .ok v none
def pPick (c a b : AV) : Res := match c with | .bool t => .br t (.ok a none) (.ok b none) | _ => .bad
def pAlloc (tb : Tb) (nid : Nat) (T : TypeId) : Res := match lk tb T with | some ti => .ok (.ptr nid 0) (some (.cells T ti.zero)) | none => .bad
def pBox (nid : Nat) (T : TypeId) (v : AV) : Res := match cellsOf v with | some cs => .ok (.ptr nid 0) (some (.cells T cs)) | none => .bad

def splice (zero : List AV) (off : Nat) (cs : List AV) : List AV := zero.take off ++ (cs ++ zero.drop (off + cs.length))
/-- Nil, kept where a list of data is kept. -/
def tyNil (tb : Tb) (T : TypeId) (v : AV) : AV := match v with
  | .nsl => match lk tb T with
    | some ti => match ti.code with
      | some (.sl e) => .zsl e
      | _ => .nsl
    | none => .nsl
  | v => v
def fillA (tb : Tb) (fs : List (TypeId × Nat)) : List AV → List (Nat × AV) → Option (List AV)
  | z, [] => some z
  | z, (i, v) :: rest =>
    match fs[i]? with
    | none => none
    | some (ft, off) => match lk tb ft, cellsOf (tyNil tb ft v) with
      | some ti, some cs => bif Nat.beq cs.length ti.size && Nat.ble (off + cs.length) z.length then fillA tb fs (splice z off cs) rest else none
      | _, _ => none
/-- The places of an array's elements. -/
def arFs (e : TypeId) (sz : Nat) : Nat → Nat → List (TypeId × Nat)
  | 0, _ => []
  | n + 1, off => (e, off) :: arFs e sz n (off + sz)
theorem arFs_at {e : TypeId} {sz : Nat} : ∀ {n off i : Nat} {ft : TypeId} {o : Nat}, (arFs e sz n off)[i]? = some (ft, o) → ft = e ∧ o = off + i * sz
  | 0, _, _, _, _, h => by simp [arFs] at h
  | n + 1, off, 0, ft, o, h => by
    simp [arFs] at h
    exact ⟨h.1.symm, by rw [← h.2]; omega⟩
  | n + 1, off, i + 1, ft, o, h => by
    obtain ⟨h1, h2⟩ := arFs_at (n := n) (off := off + sz) (i := i) (by simpa [arFs] using h)
    refine ⟨h1, ?_⟩
    rw [h2, Nat.add_mul]
    omega
def pBuild (tb : Tb) (T : TypeId) (ps : List (Nat × AV)) : Res :=
  match lk tb T with
  | some ti => match ti.kind with
    | .st fs => match fillA tb fs ti.zero ps with | some cs => .ok (.agg cs) none | none => .bad
    | .ar n e => match lk tb e with
      | some te => match fillA tb (arFs e te.size n 0) ti.zero ps with | some cs => .ok (.agg cs) none | none => .bad
      | none => .bad
    | _ => .bad
  | none => .bad
def decList (t : Ty) : Nat → List (Nat × AV) → Option (List t.El)
  | _, [] => some []
  | k, (i, v) :: rest =>
    bif Nat.beq i k then
      match cellsOf v with
      | some cs => match dec t cs, decList t (k + 1) rest with
        | some x, some xs => some (x :: xs)
        | _, _ => none
      | none => none
    else none
def pBuildSlice (tb : Tb) (nid : Nat) (T : TypeId) (n : Nat) (ps : List (Nat × AV)) : Res :=
  match lk tb T with
  | some ti => match ti.kind with
    | .sl e => match lk tb e with
      | some te => match te.code with
        | some t => match decList t 0 ps with
          | some l => bif Nat.beq n ps.length && Nat.ble (n * te.size) 16777216 then .ok (.own nid 0 n) (some (.arr e t l false 0)) else .bad
          | none => .bad
        | none => .bad
      | none => .bad
    | _ => .bad
  | none => .bad

def pLoad (tb : Tb) (h : List AObj) (T : TypeId) (v : AV) : Res :=
  match lk tb T with
  | none => .bad
  | some ti => match v with
    | .ptr id off => match h[id]? with
      | some (.cells _ cs) => okO (ldA ti (cs.drop off))
      | _ => .bad
    | .pv cs => okO (ldA ti cs)
    | .optr id g t i off => match h[id]? with
      | some (.arr _ t' l _ g') => .need (g' = g ∧ Ty.beq t' t = true) (.idx l (i : Int) fun x => okO (ldA ti ((flat t' x).drop off)))
      | _ => .bad
    | _ => .bad
def pFieldAddr (tb : Tb) (T : TypeId) (v : AV) (f : Nat) : Res :=
  match lk tb T with
  | none => .bad
  | some ti => match ti.kind with
    | .st fs => match fs[f]? with
      | none => .bad
      | some (ft, off) => match lk tb ft with
        | none => .bad
        | some _ => match v with
          | .ptr id o => .ok (.ptr id (o + off)) none
          | .pv cs => bif Nat.ble off cs.length then .ok (.pv (cs.drop off)) none else .bad
          | .optr id g t i o => .ok (.optr id g t i (o + off)) none
          | _ => .bad
    | _ => .bad
def pField (tb : Tb) (T : TypeId) (v : AV) (f : Nat) : Res :=
  match lk tb T with
  | none => .bad
  | some ti => match ti.kind with
    | .st fs => match fs[f]? with
      | none => .bad
      | some (ft, off) => match lk tb ft with
        | none => .bad
        | some tf => match v with
          | .agg cs => okO (ldA tf (cs.drop off))
          | _ => .bad
    | _ => .bad
def pIndexAddr (tb : Tb) (h : List AObj) (T : TypeId) (v i : AV) : Res :=
  match lk tb T with
  | none => .bad
  | some ti => match ti.kind with
    | .sl e => match lk tb e with
      | none => .bad
      | some te => match i with
        | .int _ n => match v with
          | .lst t l => bif Nat.beq t.size te.size then .idx l n fun x => .ok (.pv (flat t x)) none else .bad
          | .tlst t l => bif Nat.beq t.size te.size then .idx l n fun x => .ok (.pv (flat t x)) none else .bad
          | .own id g m => match h[id]? with
            | some (.arr _ t _ _ g') => bif Nat.beq t.size te.size then .need (g' = g ∧ 0 ≤ n ∧ n < m) (.ok (.optr id g t n.toNat 0) none) else .bad
            | _ => .bad
          | .osl id g lo m => match h[id]? with
            | some (.arr _ t _ _ g') => bif Nat.beq t.size te.size then .need (g' = g ∧ 0 ≤ n ∧ n < m) (.ok (.optr id g t (lo + n.toNat) 0) none) else .bad
            | _ => .bad
          | _ => .bad
        | _ => .bad
    | .ar len e => match lk tb e with
      | none => .bad
      | some te => match i, v with
        | .int _ n, .ptr id o => .need (0 ≤ n ∧ n < len) (.ok (.ptr id (o + n.toNat * te.size)) none)
        | _, _ => .bad
    | _ => .bad
def pIndex (tb : Tb) (T : TypeId) (v i : AV) : Res :=
  match lk tb T with
  | none => .bad
  | some ti => match ti.kind, v, i with
    | .str, .str s, .int _ n => .idx s.data.toList n fun b => .ok (.int .u8 b.toNat) none
    | _, _, _ => .bad

def kindOf (tb : Tb) (T : TypeId) : Option TK := (lk tb T).map (·.kind)
def intR (k : IntKind) (n : Int) : Res := .need (inR k n) (.ok (.int k n) none)
def detos : AV → AV
  | .tosl id g lo n => .osl id g lo n
  | .zsl _ => .nsl
  | v => v
/-- Whether a value that can be nil is none: a list that is empty may be nil or not. -/
def finEq (op : BinOp) (b : Bool) : Res := match op with
  | .eql => .ok (.bool b) none
  | .neq => .ok (.bool (!b)) none
  | _ => .bad
def pNilEq (tb : Tb) (op : BinOp) (T : TypeId) (x y : AV) : Res :=
  match kindOf tb T with
  | some (.sl _) => match y with
    | .nsl => match x with
      | .nsl => finEq op true
      | .lst _ l => .need (0 < l.length) (finEq op false)
      | .tlst _ l => .need (0 < l.length) (finEq op false)
      | _ => .bad
    | _ => .bad
  | some (.ptr _) => match y with
    | .nilp => match x with
      | .pv _ => finEq op false
      | .optr _ _ _ _ _ => finEq op false
      | _ => .bad
    | _ => .bad
  | some .fn => match y with
    | .nilfn => match x with
      | .nilfn => finEq op true
      | .fn _ _ _ => finEq op false
      | _ => .bad
    | _ => .bad
  | some .ifc => match y with
    | .nili => match x with
      | .iface _ _ => finEq op false
      | _ => .bad
    | _ => .bad
  | _ => .bad
def pBin (tb : Tb) (op : BinOp) (T : TypeId) (x y : AV) : Res :=
  match x, y with
  | .int k a, .int k' b =>
    match op with
    | .shl => .need (0 ≤ b ∧ b < k.bits ∧ inR k (a * 2 ^ b.toNat)) (.ok (.int k (a * 2 ^ b.toNat)) none)
    | .shr => .need (0 ≤ b ∧ b < k.bits) (.ok (.int k (a / 2 ^ b.toNat)) none)
    | _ =>
    match decide (k = k') with
    | false => .bad
    | true =>
      match op with
      | .add => intR k (a + b)
      | .sub => intR k (a - b)
      | .mul => intR k (a * b)
      | .quo => .need (0 ≤ a ∧ 0 < b ∧ inR k (a / b)) (.ok (.int k (a / b)) none)
      | .rem => .need (0 ≤ a ∧ 0 < b) (.ok (.int k (a % b)) none)
      | .eql => .ok (.bool (a == b)) none
      | .neq => .ok (.bool (a != b)) none
      | .lss => .ok (.bool (decide (a < b))) none
      | .leq => .ok (.bool (decide (a ≤ b))) none
      | .gtr => .ok (.bool (decide (b < a))) none
      | .geq => .ok (.bool (decide (b ≤ a))) none
      | _ => .bad
  | .str a, .str b =>
    match op with
    | .add => .need (a.size + b.size ≤ 9223372036854775807) (.ok (.str (a ++ b)) none)
    | .eql => .ok (.bool (sEq a b)) none
    | .neq => .ok (.bool (!sEq a b)) none
    | .lss => .ok (.bool (sLt a b)) none
    | .leq => .ok (.bool (!sLt b a)) none
    | .gtr => .ok (.bool (sLt b a)) none
    | .geq => .ok (.bool (!sLt a b)) none
    | _ => .bad
  | .bool a, .bool b => match kindOf tb T, op with
    | some .bool, .eql => .ok (.bool (a == b)) none
    | some .bool, .neq => .ok (.bool (!(a == b))) none
    | _, _ => .bad
  | .nilp, .nilp => match kindOf tb T, op with
    | some (.ptr _), .eql => .ok (.bool true) none
    | some (.ptr _), .neq => .ok (.bool false) none
    | _, _ => .bad
  | .ptr _ _, .nilp => match kindOf tb T, op with
    | some (.ptr _), .eql => .ok (.bool false) none
    | some (.ptr _), .neq => .ok (.bool true) none
    | _, _ => .bad
  | .agg xs, .agg ys =>
    match lk tb T with
    | none => .bad
    | some ti => match ti.code with
      | some (.st fs) => match (Ty.st fs).flatEq, dec (.st fs) xs, dec (.st fs) ys with
        | true, some a, some b => match op with
          | .eql => .ok (.bool (eqT (.st fs) a b)) none
          | .neq => .ok (.bool (!eqT (.st fs) a b)) none
          | _ => .bad
        | _, _, _ => .bad
      | _ => .bad
  | x, y => pNilEq tb op T x y
def pUn (op : UnOp) (x : AV) : Res := match op, x with
  | .not, .bool b => .ok (.bool !b) none
  | .neg, .int k n => intR k (0 - n)
  | _, _ => .bad
def bytesOf (l : List Int) : ByteArray := ⟨(l.map fun n => UInt8.ofNat n.toNat).toArray⟩
def pConv (tb : Tb) (h : List AObj) (S T : TypeId) (x : AV) : Res :=
  match lk tb S, lk tb T with
  | some si, some ti => match ti.kind, x with
    | .str, .own id g n => match si.kind with
      | .sl e => match kindOf tb e, h[id]? with
        | some (.int .u8), some (.arr _ _ l _ g') => match castL (b := .int .u8) l with
          | some l => .need (g' = g ∧ n ≤ l.length) (.ok (.str (bytesOf (l.take n))) none)
          | none => .bad
        | _, _ => .bad
      | _ => .bad
    | .int k, .int _ n => .need (inR k n) (.ok (.int k n) none)
    | .str, .str s => .ok (.str s) none
    | _, _ => .bad
  | _, _ => .bad
def pIface (tb : Tb) (T : TypeId) (x : AV) : Res :=
  match lk tb T with
  | none => .bad
  | some ti => match ti.kind, x with
    | .ifc, _ => .bad
    | _, .any => .bad
    | _, .nsl => .bad
    | _, _ => .ok (.iface T x) none
def zeroA (ti : TI) : Option AV := ldA ti ti.zero
def pAssert (tb : Tb) (x : AV) (T : TypeId) (ok : Bool) : Res :=
  match lk tb T with
  | none => .bad
  | some ti => match ti.kind with
    | .ifc => .bad
    | _ => match x with
      | .iface t v => match Nat.beq t T, ok with
        | true, true => .ok (.tup [v, .bool true]) none
        | true, false => .ok v none
        | false, true => match zeroA ti with | some z => .ok (.tup [z, .bool false]) none | none => .bad
        | false, false => .bad
      | .nili => match ok with
        | true => match zeroA ti with | some z => .ok (.tup [z, .bool false]) none | none => .bad
        | false => .bad
      | _ => .bad
def pExtract (x : AV) (i : Nat) : Res := match x with
  | .tup vs => okO vs[i]?
  | _ => .bad
def optI (d : Int) : Option AV → Option Int
  | none => some d
  | some (.int _ n) => some n
  | _ => none
def pSlice (tb : Tb) (h : List AObj) (T : TypeId) (x : AV) (lo hi mx : Option AV) : Res :=
  match mx with
  | some _ => .bad
  | none =>
  match lk tb T with
  | none => .bad
  | some ti => match ti.kind, x with
    | .str, .str s => match optI 0 lo, optI s.size hi with
      | some a, some b => .need (0 ≤ a ∧ a ≤ b ∧ b ≤ s.size) (.ok (.str (s.extract a.toNat b.toNat)) none)
      | _, _ => .bad
    | .sl e, .lst t l => match lk tb e with
      | some te => bif Nat.beq t.size te.size then
        match optI 0 lo, optI l.length hi with
        | some a, some b => .need (0 ≤ a ∧ a ≤ b ∧ b ≤ l.length) (.ok (.lst t ((l.drop a.toNat).take (b.toNat - a.toNat))) none)
        | _, _ => .bad
        else .bad
      | none => .bad
    | .sl e, .tlst t l => match lk tb e with
      | some te => bif Nat.beq t.size te.size then
        match optI 0 lo, optI l.length hi with
        | some a, some b => .need (0 ≤ a ∧ a ≤ b ∧ b ≤ l.length) (.ok (.lst t ((l.drop a.toNat).take (b.toNat - a.toNat))) none)
        | _, _ => .bad
        else .bad
      | none => .bad
    | .sl e, .own id g n => match lk tb e with
      | some te => match h[id]? with
        | some (.arr _ t l _ g') => bif Nat.beq t.size te.size then
          match lo, optI n hi with
          | none, some b => .need (g' = g ∧ 0 ≤ b ∧ b ≤ l.length ∧ n ≤ l.length) (.ok (.own id g b.toNat) none)
          | some (.int _ a), some b => .need (g' = g ∧ 0 ≤ a ∧ a ≤ b ∧ b ≤ l.length ∧ n ≤ l.length) (.ok (.osl id g a.toNat (b.toNat - a.toNat)) none)
          | _, _ => .bad
          else .bad
        | _ => .bad
      | none => .bad
    | .sl e, .osl id g l0 n => match lk tb e with
      | some te => match h[id]? with
        | some (.arr _ t _ _ g') => bif Nat.beq t.size te.size then
          match optI 0 lo, optI n hi with
          | some a, some b => .need (g' = g ∧ 0 ≤ a ∧ a ≤ b ∧ b ≤ n) (.ok (.osl id g (l0 + a.toNat) (b.toNat - a.toNat)) none)
          | _, _ => .bad
          else .bad
        | _ => .bad
      | none => .bad
    | _, _ => .bad
/-- A slice with a capacity of its own: it is taken with no room behind it, but where all room of an array of the code's own stays. -/
def pSlice3 (tb : Tb) (h : List AObj) (T : TypeId) (x : AV) (lo hi mx : Option AV) : Res :=
  match hi, mx with
  | some (.int _ b), some (.int _ c) =>
    match lk tb T with
    | none => .bad
    | some ti => match ti.kind with
      | .sl e => match lk tb e with
        | none => .bad
        | some te => match x with
          | .lst t l => bif Nat.beq t.size te.size then
            match optI 0 lo with
            | some a => .need (0 ≤ a ∧ a ≤ b ∧ b = c ∧ b ≤ l.length) (.ok (.tlst t ((l.drop a.toNat).take (b.toNat - a.toNat))) none)
            | none => .bad
            else .bad
          | .tlst t l => bif Nat.beq t.size te.size then
            match optI 0 lo with
            | some a => .need (0 ≤ a ∧ a ≤ b ∧ b = c ∧ b ≤ l.length) (.ok (.tlst t ((l.drop a.toNat).take (b.toNat - a.toNat))) none)
            | none => .bad
            else .bad
          | .own id g n => match h[id]? with
            | some (.arr _ t l f g') => bif Nat.beq t.size te.size then
              match optI 0 lo with
              | some a => match f with
                | true => .br (decide (a = 0 ∧ c = l.length)) (.need (g' = g ∧ 0 ≤ b ∧ b ≤ l.length) (.ok (.own id g b.toNat) none)) (.need (g' = g ∧ 0 ≤ a ∧ a ≤ b ∧ b = c ∧ b ≤ l.length ∧ n ≤ l.length) (.ok (.tosl id g a.toNat (b.toNat - a.toNat)) none))
                | false => .need (g' = g ∧ 0 ≤ a ∧ a ≤ b ∧ b = c ∧ b ≤ l.length ∧ n ≤ l.length) (.ok (.tosl id g a.toNat (b.toNat - a.toNat)) none)
              | none => .bad
              else .bad
            | _ => .bad
          | _ => .bad
      | _ => .bad
  | _, _ => .bad
def zeroEl (t : Ty) (ti : TI) : Option t.El := dec t ti.zero
def pMake (tb : Tb) (nid : Nat) (T : TypeId) (len cap : AV) : Res :=
  match lk tb T with
  | none => .bad
  | some ti => match ti.kind, len, cap with
    | .sl e, .int _ n, .int _ c => match lk tb e with
      | none => .bad
      | some te => match te.code with
        | none => .bad
        | some t => match zeroEl t te with
          | none => .bad
          | some z => .need (0 ≤ n ∧ n ≤ c ∧ c * te.bytes ≤ 140737488355328 ∧ c ≤ 9223372036854775807) (.ok (.own nid 0 n.toNat) (some (.arr e t (List.replicate c.toNat z) true 0)))
    | _, _, _ => .bad
def pNilCheck (x : AV) : Res := match x with
  | .ptr _ _ => .ok x none
  | .optr _ _ _ _ _ => .ok x none
  | .pv _ => .ok x none
  | .fn (.func _) _ _ => .ok x none
  | .iface _ _ => .ok x none
  | _ => .bad
def pLen (tb : Tb) (T : TypeId) (x : AV) : Res :=
  match lk tb T with
  | none => .bad
  | some ti => match ti.kind, x with
    | .str, .str s => .ok (.int .i64 s.size) none
    | .sl _, .lst _ l => .ok (.int .i64 l.length) none
    | .sl _, .tlst _ l => .ok (.int .i64 l.length) none
    | .sl _, .own _ _ n => .ok (.int .i64 n) none
    | .sl _, .osl _ _ _ n => .ok (.int .i64 n) none
    | .sl _, .nsl => .ok (.int .i64 0) none
    | _, _ => .bad
def pCap (tb : Tb) (h : List AObj) (T : TypeId) (x : AV) : Res :=
  match kindOf tb T with
  | some (.sl _) => match x with
    | .nsl => .ok (.int .i64 0) none
    | .zsl _ => .ok (.int .i64 0) none
    | .tlst _ l => .ok (.int .i64 l.length) none
    | .tosl _ _ _ n => .ok (.int .i64 n) none
    | .own id g _ => match h[id]? with
      | some (.arr _ _ l true g') => .need (g' = g) (.ok (.int .i64 l.length) none)
      | _ => .bad
    | _ => .bad
  | _ => .bad
def pMinMax (mx : Bool) : List AV → Res
  | [.int k a, .int _ b] => match mx with
    | true => .ok (.int k (if a < b then b else a)) none
    | false => .ok (.int k (if b < a then b else a)) none
  | [.str a, .str b] => match mx with
    | true => .bad
    | false => .ok (.str (if sLt b a then b else a)) none
  | _ => .bad

def pop (tb : Tb) (h : List AObj) (nid : Nat) (ρ : Operand → AV) (o : Oper) : Res :=
  match o.op with
  | .move x => pMove tb nid o.type (ρ x)
  | .assign x => pMove tb nid o.type (ρ x)
  | .pick c a b => pPick (ρ c) (ρ a) (ρ b)
  | .alloc e => pAlloc tb nid e
  | .box e x => pBox nid e (ρ x)
  | .build t ps => pBuild tb t (ps.toList.map fun p => (p.1, ρ p.2))
  | .buildSlice t n ps => pBuildSlice tb nid t n (ps.toList.map fun p => (p.1, ρ p.2))
  | .load t a => pLoad tb h t (ρ a)
  | .fieldAddr t x f => pFieldAddr tb t (ρ x) f
  | .field t x f => pField tb t (ρ x) f
  | .indexAddr t x i => pIndexAddr tb h t (detos (ρ x)) (ρ i)
  | .index t x i => pIndex tb t (ρ x) (ρ i)
  | .binOp op t x y _ => pBin tb op t (detos (ρ x)) (ρ y)
  | .unOp op _ x => pUn op (ρ x)
  | .convert s d x => pConv tb h s d (ρ x)
  | .makeInterface t x => pIface tb t (ρ x)
  | .typeAssert x _ t ok => pAssert tb (ρ x) t ok
  | .extract t i => pExtract (ρ t) i
  | .slice t x lo hi mx => match mx with
    | none => pSlice tb h t (detos (ρ x)) (lo.map ρ) (hi.map ρ) none
    | some m => pSlice3 tb h t (ρ x) (lo.map ρ) (hi.map ρ) (some (ρ m))
  | .makeSlice t n c => pMake tb nid t (ρ n) (ρ c)
  | .makeFunc f first caps => .ok (.fn f (first.toList.map ρ) (caps.toList.map ρ)) none
  | .nilCheck x => pNilCheck (ρ x)
  | .call c => match c.callee, c.args.toList, c.argTypes.toList with
    | .builtin .len, [x], [t] => pLen tb t (detos (ρ x))
    | .builtin .cap, [x], [t] => pCap tb h t (ρ x)
    | .builtin .min, xs, _ => pMinMax false (xs.map ρ)
    | .builtin .max, xs, _ => pMinMax true (xs.map ρ)
    | _, _, _ => .bad
  | _ => .bad
end Av
