/-
  An abstract reading of values and memory: what a value of the program stands for, and what of memory is known. Plain lemmas, over any program.
-/
import Derived.Calls
import Derived.Below
import Derived.Laws.AppendOwn
import Derived.Laws.OwnMore
namespace Av
open Go

inductive Ty where
 | bool | int (k : IntKind) | str | st (fs : List Ty) | sl (e : Ty) | ifc (Ts : List TypeId) (ts : List Ty) | raw (K : Nat)
mutual
@[reducible] def Ty.El : Ty → Type
 | .bool => Bool
 | .int _ => Int
 | .str => ByteArray
 | .sl e => List e.El
 | .st fs => Ty.Els fs
 | .ifc Ts ts => Ty.Alts ts Ts
 | .raw _ => Option Nat
@[reducible] def Ty.Els : List Ty → Type
 | [] => Unit
 | t :: ts => t.El × Ty.Els ts
@[reducible] def Ty.Alts : List Ty → List TypeId → Type
 | [], _ => Empty
 | _ :: _, [] => Empty
 | t :: ts, _ :: Ts => t.El ⊕ Ty.Alts ts Ts
end
mutual
def Ty.size : Ty → Nat
 | .st fs => Ty.sizes fs
 | _ => 1
def Ty.sizes : List Ty → Nat
 | [] => 0
 | t :: ts => t.size + Ty.sizes ts
end

inductive AV : Type where
 | any
 | und
 | bool (b : Bool)
 | int (k : IntKind) (n : Int)
 | str (s : ByteArray)
 | nilp
 | nsl
 | ptr (id off : Nat)
 | optr (id gen : Nat) (t : Ty) (i off : Nat)
 | pv (cs : List AV)
 | agg (cs : List AV)
 | tup (vs : List AV)
 | lst (t : Ty) (l : List t.El)
 | tlst (t : Ty) (l : List t.El)
 | own (id gen n : Nat)
 | osl (id gen lo n : Nat)
 | tosl (id gen lo n : Nat)
 | zsl (t : Ty)
 | fn (f : Fn) (first caps : List AV)
 | nilfn
 | iface (t : TypeId) (v : AV)
 | nili
 | nilm
 | csl (id n cap : Nat)
 | raw (K b off : Nat)
 | oth (id : Nat)

def rawV (K : Nat) : Option Nat → AV
 | none => .nilp
 | some b => .raw K b 0
mutual
def flat : (t : Ty) → t.El → List AV
 | .bool, b => [.bool b]
 | .int k, n => [.int k n]
 | .str, s => [.str s]
 | .sl e, l => [.lst e l]
 | .st fs, x => flats fs x
 | .ifc Ts ts, x => [altV ts Ts x]
 | .raw K, x => [rawV K x]
def flats : (ts : List Ty) → Ty.Els ts → List AV
 | [], _ => []
 | t :: ts, x => flat t x.1 ++ flats ts x.2
def altV : (ts : List Ty) → (Ts : List TypeId) → Ty.Alts ts Ts → AV
 | [], _, x => nomatch x
 | _ :: _, [], x => nomatch x
 | t :: ts, T :: Ts, x => match x with
  | .inl y => .iface T (avV t y)
  | .inr x => altV ts Ts x
def avV : (t : Ty) → t.El → AV
 | .bool, b => .bool b
 | .int k, n => .int k n
 | .str, s => .str s
 | .sl e, l => .lst e l
 | .st fs, x => .agg (flats fs x)
 | .ifc Ts ts, x => altV ts Ts x
 | .raw K, x => rawV K x
end

inductive OObj : Type where
 | map (bm : Nat) (kt vt : Ty) (l : List (kt.El × vt.El))
 | iter (mid bm n : Nat) (seen : List Nat)
 | mapD (bm : Nat) (kt vt : Ty) (l : List (kt.El × vt.El)) (bs : List Nat) (ck : Nat)
 | bxs (T : TypeId) (t : Ty) (m : List (Nat × t.El))
inductive AObj : Type where
 | oth (o : OObj)
 | resv
 | dead
 | cells (T : TypeId) (cs : List AV)
 | arr (T : TypeId) (t : Ty) (l : List t.El) (full : Bool) (gen : Nat)

def AObj.alive : AObj → Bool
 | .dead => false
 | .resv => false
 | _ => true
def AObj.more : AObj → List Nat
 | .oth (.bxs _ _ m) => m.map Prod.fst
 | _ => []

def kn (h : List AObj) (id : Nat) : Bool := match h[id]? with
 | some .resv => false
 | some _ => true
 | none => false

def blkOf : Value → Option Nat
 | .pointer (some a) => some a.block
 | .slice (some a) _ _ => some a.block
 | .map (some r) => some r
 | _ => none

structure St where
 σ : Nat → Value
 h : List AObj
 w : World
 F : Nat → Prop

def Has (s : St) (id : Nat) (o : AObj) (b : Nat) : Prop := blkOf (s.σ id) = some b ∨ b ∈ o.more
def OwnI (s : St) (b : Nat) : Prop := ∃ id o, s.h[id]? = some o ∧ o.alive = true ∧ Has s id o b
def Own (s : St) (b : Nat) : Prop := s.F b ∨ OwnI s b

mutual
def RT (s : St) : (t : Ty) → t.El → (Nat → Option Value) → Prop
 | .bool, b, c => c 0 = some (.bool b)
 | .int k, n, c => c 0 = some (.int k n)
 | .str, x, c => c 0 = some (.string x)
 | .sl e, l, c => let l' : List e.El := l; ∃ a cap, c 0 = some (.slice a l'.length cap) ∧ l'.length ≤ cap ∧
   (l' ≠ [] → ∃ b o, a = some ⟨b, o, none⟩ ∧ b < s.w.heap.size ∧ ¬ Own s b ∧ ∀ i x, l'[i]? = some x → RT s e x (fun j => s.w.cell? ⟨b, o + i * e.size + j, none⟩))
 | .st fs, x, c => RTs s fs x c
 | .ifc Ts ts, x, c => ∃ v, c 0 = some v ∧ RA s ts Ts x v
 | .raw _, x, c => let x' : Option Nat := x; c 0 = some (.pointer (x'.map fun b => ⟨b, 0, none⟩))
def RTs (s : St) : (ts : List Ty) → Ty.Els ts → (Nat → Option Value) → Prop
 | [], _, _ => True
 | t :: ts, x, c => RT s t x.1 c ∧ RTs s ts x.2 (fun j => c (t.size + j))
def RA (s : St) : (ts : List Ty) → (Ts : List TypeId) → Ty.Alts ts Ts → Value → Prop
 | [], _, x, _ => nomatch x
 | _ :: _, [], x, _ => nomatch x
 | t :: ts, T :: Ts, x, v => match x with
  | .inl y => ∃ w, v = .iface T w ∧ RV s t y w
  | .inr x => RA s ts Ts x v
def RV (s : St) : (t : Ty) → t.El → Value → Prop
 | .bool, b, v => v = .bool b
 | .int k, n, v => v = .int k n
 | .str, x, v => v = .string x
 | .sl e, l, v => let l' : List e.El := l; ∃ a cap, v = .slice a l'.length cap ∧ l'.length ≤ cap ∧
   (l' ≠ [] → ∃ b o, a = some ⟨b, o, none⟩ ∧ b < s.w.heap.size ∧ ¬ Own s b ∧ ∀ i x, l'[i]? = some x → RT s e x (fun j => s.w.cell? ⟨b, o + i * e.size + j, none⟩))
 | .st fs, x, v => ∃ vs : List Value, v = .agg vs.toArray ∧ vs.length = Ty.sizes fs ∧ RTs s fs x (fun j => vs[j]?) ∧ ∀ u ∈ vs, u.oneCell' = true
 | .ifc Ts ts, x, v => RA s ts Ts x v
 | .raw _, x, v => let x' : Option Nat := x; v = .pointer (x'.map fun b => ⟨b, 0, none⟩)
end

def RLst (s : St) (t : Ty) (l : List t.El) (v : Value) : Prop :=
 ∃ a cap, v = .slice a l.length cap ∧ l.length ≤ cap ∧
   (l ≠ [] → ∃ b o, a = some ⟨b, o, none⟩ ∧ b < s.w.heap.size ∧ ¬ Own s b ∧ ∀ i x, l[i]? = some x → RT s t x (fun j => s.w.cell? ⟨b, o + i * t.size + j, none⟩))

def keyV : (t : Ty) → t.El → Value
 | .bool, b => .bool b
 | .int k, n => .int k n
 | .str, s => .string s
 | _, _ => undef
def keyTy : Ty → Bool
 | .int _ => true
 | .str => true
 | _ => false
def OthR (s : St) (id : Nat) : OObj → Prop
 | .map bm kt vt l => s.σ id = .map (some bm) ∧ keyTy kt = true ∧ ∃ es : Array MapEntry, s.w.heap[bm]? = some (.map es es.size) ∧ es.size = l.length ∧
   (∀ (i : Nat) (e : MapEntry) (x : kt.El × vt.El), es[i]? = some e → l[i]? = some x → e.key = keyV kt x.1 ∧ RV s vt x.2 e.val ∧ e.born = i) ∧ (l.map fun x => keyV kt x.1).Nodup
 | .iter _ bm n seen => ∃ r, s.σ id = .pointer (some ⟨r, 0, none⟩) ∧ s.w.heap[r]? = some (.mapIter (some bm) n seen.reverse.toArray n)
 | .mapD bm kt vt l bs ck => s.σ id = .map (some bm) ∧ keyTy kt = true ∧ ∃ es : Array MapEntry, s.w.heap[bm]? = some (.map es ck) ∧ es.size = l.length ∧
   (∀ (i : Nat) (e : MapEntry) (x : kt.El × vt.El), es[i]? = some e → l[i]? = some x → e.key = keyV kt x.1 ∧ RV s vt x.2 e.val ∧ bs[i]? = some e.born) ∧ (l.map fun x => keyV kt x.1).Nodup ∧ bs.length = l.length ∧ bs.Nodup ∧ ∀ b ∈ bs, b < ck
 | .bxs T t m => blkOf (s.σ id) = none ∧ (m.map Prod.fst).Nodup ∧ ∀ b x, (b, x) ∈ m → ∃ vs rest : List Value, s.w.heap[b]? = some (.cells (vs ++ rest).toArray T (0, 0)) ∧ vs.length = t.size ∧ RT s t x (fun j => vs[j]?) ∧ ∀ u ∈ vs, u.oneCell' = true

mutual
def R (s : St) : AV → Value → Prop
 | .any, _ => True
 | .und, v => v = undef
 | .bool b, v => v = .bool b
 | .int k n, v => v = .int k n
 | .str x, v => v = .string x
 | .nilp, v => v = .pointer none
 | .nsl, v => v = .slice none 0 0
 | .zsl _, v => v = .slice none 0 0
 | .ptr id off, v => kn s.h id = true ∧ ∃ b, v = .pointer (some ⟨b, off, none⟩) ∧ ∀ T cs, s.h[id]? = some (.cells T cs) → s.σ id = .pointer (some ⟨b, 0, none⟩)
 | .optr id g t i off, v => kn s.h id = true ∧ ∃ b, v = .pointer (some ⟨b, i * t.size + off, none⟩) ∧ ∀ T t' l f g0, s.h[id]? = some (.arr T t' l f g0) → g ≤ g0 ∧ (g0 = g → t' = t ∧ i < l.length ∧ ∃ len cap, s.σ id = .slice (some ⟨b, 0, none⟩) len cap)
 | .pv cs, v => ∃ b o, v = .pointer (some ⟨b, o, none⟩) ∧ b < s.w.heap.size ∧ ¬ Own s b ∧ RC s cs (fun j => s.w.cell? ⟨b, o + j, none⟩)
 | .agg cs, v => ∃ vs : List Value, v = .agg vs.toArray ∧ RL s cs vs ∧ ∀ u ∈ vs, u.oneCell' = true
 | .tup cs, v => ∃ vs : List Value, v = .tuple vs.toArray ∧ RL s cs vs
 | .lst t l, v => RLst s t l v
 | .tlst t l, v => RLst s t l v ∧ ∃ a, v = .slice a l.length l.length
 | .own id g n, v => kn s.h id = true ∧ ∃ base cap, v = .slice base n cap ∧ ∀ T t l f g0, s.h[id]? = some (.arr T t l f g0) → g ≤ g0 ∧ (g0 = g → n ≤ l.length ∧ ∃ len, s.σ id = .slice base len cap)
 | .osl id g lo n, v => kn s.h id = true ∧ ∃ a cap', v = .slice a n cap' ∧ n ≤ cap' ∧ ∀ T t l f g0, s.h[id]? = some (.arr T t l f g0) → g ≤ g0 ∧ (g0 = g → lo + n ≤ l.length ∧ ∃ base len cap, s.σ id = .slice base len cap ∧ (0 < n → ∃ b, base = some ⟨b, 0, none⟩ ∧ a = some ⟨b, lo * t.size, none⟩))
 | .tosl id g lo n, v => (kn s.h id = true ∧ ∃ a cap', v = .slice a n cap' ∧ n ≤ cap' ∧ ∀ T t l f g0, s.h[id]? = some (.arr T t l f g0) → g ≤ g0 ∧ (g0 = g → lo + n ≤ l.length ∧ ∃ base len cap, s.σ id = .slice base len cap ∧ (0 < n → ∃ b, base = some ⟨b, 0, none⟩ ∧ a = some ⟨b, lo * t.size, none⟩))) ∧ ∃ a, v = .slice a n n
 | .fn f first caps, v => ∃ xs ys : List Value, v = .func f xs.toArray ys.toArray ∧ RL s first xs ∧ RL s caps ys
 | .nilfn, v => v = .nilFunc
 | .iface t x, v => ∃ y, v = .iface t y ∧ R s x y
 | .nili, v => v = .nilIface
 | .nilm, v => v = .map none
 | .csl id n cap, v => kn s.h id = true ∧ ∃ b, v = .slice (some ⟨b, 0, none⟩) n cap ∧ ∀ T cs, s.h[id]? = some (.cells T cs) → s.σ id = .pointer (some ⟨b, 0, none⟩)
 | .raw _ b off, v => v = .pointer (some ⟨b, off, none⟩)
 | .oth id, v => kn s.h id = true ∧ v.oneCell' = true ∧ ∀ o, s.h[id]? = some (.oth o) → v = s.σ id
def RL (s : St) : List AV → List Value → Prop
 | [], vs => vs = []
 | c :: cs, vs => ∃ v vs', vs = v :: vs' ∧ R s c v ∧ RL s cs vs'
def RC (s : St) : List AV → (Nat → Option Value) → Prop
 | [], _ => True
 | x :: cs, c => (∃ v, c 0 = some v ∧ R s x v ∧ v.oneCell' = true) ∧ RC s cs (fun j => c (j + 1))
end

def ObjR (s : St) (id : Nat) : AObj → Prop
 | .oth o => OthR s id o
 | .resv => True
 | .dead => True
 | .cells T cs => ∃ b vs rest, s.σ id = .pointer (some ⟨b, 0, none⟩) ∧ s.w.heap[b]? = some (.cells (List.toArray (vs ++ rest)) T (0, 0)) ∧ RL s cs vs ∧ ∀ u ∈ vs, u.oneCell' = true
 | .arr T t l f _ => ∃ xs, s.w.ownsRow 0 T t.size (s.σ id) l.length xs ∧ (∀ u ∈ xs, u.oneCell' = true) ∧ (∀ i x, l[i]? = some x → RT s t x (fun j => xs[i * t.size + j]?)) ∧
   (f = true → ∃ base, s.σ id = .slice base l.length l.length)

structure Ok (s : St) : Prop where
 obj : ∀ id o, s.h[id]? = some o → ObjR s id o
 inj : ∀ i j o p b, s.h[i]? = some o → s.h[j]? = some p → o.alive = true → p.alive = true → Has s i o b → Has s j p b → i = j
 fb : ∀ b, s.F b → b < s.w.heap.size
 dis : ∀ b, OwnI s b → ¬ s.F b

structure Step (s s' : St) : Prop where
 os : s'.w.os = s.w.os
 tape : s'.w.tape = s.w.tape
 output : s'.w.output = s.w.output
 drawn : s.w.drawn ≤ s'.w.drawn
 size : s.w.heap.size ≤ s'.w.heap.size
 kn : ∀ id, Av.kn s.h id = true → Av.kn s'.h id = true
 keep : ∀ b, b < s.w.heap.size → ¬ OwnI s b → ¬ OwnI s' b ∧ s'.w.heap[b]? = s.w.heap[b]?
 frn : s'.F = s.F
 cells : ∀ id T cs', Av.kn s.h id = true → s'.h[id]? = some (.cells T cs') → s'.σ id = s.σ id ∧ ∃ cs, s.h[id]? = some (.cells T cs)
 oth : ∀ id o', Av.kn s.h id = true → s'.h[id]? = some (.oth o') → s'.σ id = s.σ id ∧ ∃ o, s.h[id]? = some (.oth o)
 arr : ∀ id T t l' f' g, Av.kn s.h id = true → s'.h[id]? = some (.arr T t l' f' g) → ∃ l f g0, s.h[id]? = some (.arr T t l f g0) ∧ g0 ≤ g ∧ (g0 = g → s'.σ id = s.σ id ∧ l'.length = l.length)

theorem Step.refl (s : St) : Step s s :=
 ⟨rfl, rfl, rfl, Nat.le_refl _, Nat.le_refl _, fun _ h => h, fun _ _ h => ⟨h, rfl⟩, rfl, fun _ _ cs _ h => ⟨rfl, cs, h⟩, fun _ o _ h => ⟨rfl, o, h⟩, fun _ _ _ l f g _ h => ⟨l, f, g, h, Nat.le_refl _, fun _ => ⟨rfl, rfl⟩⟩⟩
theorem Step.trans {a b c : St} (h : Step a b) (k : Step b c) : Step a c where
 os := k.os.trans h.os
 tape := k.tape.trans h.tape
 output := k.output.trans h.output
 drawn := Nat.le_trans h.drawn k.drawn
 size := Nat.le_trans h.size k.size
 kn := fun id hid => k.kn id (h.kn id hid)
 keep := fun x hx hn => by
  obtain ⟨h1, h2⟩ := h.keep x hx hn
  obtain ⟨k1, k2⟩ := k.keep x (Nat.lt_of_lt_of_le hx h.size) h1
  exact ⟨k1, k2.trans h2⟩
 frn := k.frn.trans h.frn
 cells := fun id T cs' hid hc => by
  obtain ⟨k1, cs, k2⟩ := k.cells id T cs' (h.kn id hid) hc
  obtain ⟨h1, cs0, h2⟩ := h.cells id T cs hid k2
  exact ⟨k1.trans h1, cs0, h2⟩
 oth := fun id o' hid hc => by
  obtain ⟨k1, o1, k2⟩ := k.oth id o' (h.kn id hid) hc
  obtain ⟨h1, o0, h2⟩ := h.oth id o1 hid k2
  exact ⟨k1.trans h1, o0, h2⟩
 arr := fun id T t l' f' g hid hc => by
  obtain ⟨l, f, g1, k1, k2, k3⟩ := k.arr id T t l' f' g (h.kn id hid) hc
  obtain ⟨l0, f0, g0, h1, h2, h3⟩ := h.arr id T t l f g1 hid k1
  refine ⟨l0, f0, g0, h1, Nat.le_trans h2 k2, fun e => ?_⟩
  have e1 : g1 = g := by omega
  have e2 : g0 = g1 := by omega
  obtain ⟨x1, x2⟩ := k3 e1
  obtain ⟨y1, y2⟩ := h3 e2
  exact ⟨x1.trans y1, x2.trans y2⟩

theorem Step.ro {s s' : St} (h : Step s s') {b : Nat} (hlt : b < s.w.heap.size) (hn : ¬ Own s b) : ¬ Own s' b := by
 rintro (h1 | h1)
 ·rw [h.frn] at h1; exact hn (.inl h1)
 ·exact (h.keep b hlt (fun k => hn (.inr k))).1 h1
theorem Step.cell {s s' : St} (h : Step s s') {b : Nat} (hn : ¬ Own s b) {o : Nat} {v : Value} (hc : s.w.cell? ⟨b, o, none⟩ = some v) : s'.w.cell? ⟨b, o, none⟩ = some v := by
 have hb : b < s.w.heap.size := World.block_lt_of_cell? s.w ⟨b, o, none⟩ hc
 have := (h.keep b hb (fun k => hn (.inr k))).2
 rw [World.cell?_of_block (w := s.w) (a := ⟨b, o, none⟩) this]
 exact hc
structure Sim (s s' : St) : Prop where
 size : s.w.heap.size ≤ s'.w.heap.size
 kn : ∀ id, Av.kn s.h id = true → Av.kn s'.h id = true
 ro : ∀ {b : Nat}, b < s.w.heap.size → ¬ Own s b → ¬ Own s' b
 cell : ∀ {b : Nat}, ¬ Own s b → ∀ {o : Nat} {v : Value}, s.w.cell? ⟨b, o, none⟩ = some v → s'.w.cell? ⟨b, o, none⟩ = some v
 cells : ∀ id T cs', Av.kn s.h id = true → s'.h[id]? = some (.cells T cs') → s'.σ id = s.σ id ∧ ∃ cs, s.h[id]? = some (.cells T cs)
 oth : ∀ id o', Av.kn s.h id = true → s'.h[id]? = some (.oth o') → s'.σ id = s.σ id ∧ ∃ o, s.h[id]? = some (.oth o)
 arr : ∀ id T t l' f' g, Av.kn s.h id = true → s'.h[id]? = some (.arr T t l' f' g) → ∃ l f g0, s.h[id]? = some (.arr T t l f g0) ∧ g0 ≤ g ∧ (g0 = g → s'.σ id = s.σ id ∧ l'.length = l.length)
theorem Step.sim {s s' : St} (h : Step s s') : Sim s s' := ⟨h.size, h.kn, h.ro, fun hn _ _ hc => h.cell hn hc, h.cells, h.oth, h.arr⟩
mutual
theorem RT_sim {s s' : St} (h : Sim s s') : ∀ (t : Ty) (x : t.El) (c c' : Nat → Option Value), (∀ j v, c j = some v → c' j = some v) → RT s t x c → RT s' t x c'
 | .bool, b, c, c', hc, hr => by simp only [RT] at hr ⊢; exact hc _ _ hr
 | .int k, n, c, c', hc, hr => by simp only [RT] at hr ⊢; exact hc _ _ hr
 | .str, x, c, c', hc, hr => by simp only [RT] at hr ⊢; exact hc _ _ hr
 | .raw _, x, c, c', hc, hr => by simp only [RT] at hr ⊢; exact hc _ _ hr
 | .sl e, l, c, c', hc, hr => by
  simp only [RT] at hr ⊢
  obtain ⟨a, cap, h0, hl, hr⟩ := hr
  refine ⟨a, cap, hc _ _ h0, hl, fun hne => ?_⟩
  obtain ⟨b, o, ha, hlt, hb, hx⟩ := hr hne
  exact ⟨b, o, ha, Nat.lt_of_lt_of_le hlt h.size, h.ro hlt hb, fun i x hi => RT_sim h e x _ _ (fun j v hv => h.cell hb hv) (hx i x hi)⟩
 | .st fs, x, c, c', hc, hr => by simp only [RT] at hr ⊢; exact RTs_sim h fs x c c' hc hr
 | .ifc Ts ts, x, c, c', hc, hr => by
  simp only [RT] at hr ⊢
  obtain ⟨v, h0, h1⟩ := hr
  exact ⟨v, hc _ _ h0, RA_sim h ts Ts x v h1⟩
theorem RTs_sim {s s' : St} (h : Sim s s') : ∀ (ts : List Ty) (x : Ty.Els ts) (c c' : Nat → Option Value), (∀ j v, c j = some v → c' j = some v) → RTs s ts x c → RTs s' ts x c'
 | [], _, _, _, _, _ => by simp only [RTs]
 | t :: ts, x, c, c', hc, hr => by
  simp only [RTs] at hr ⊢
  exact ⟨RT_sim h t x.1 c c' hc hr.1, RTs_sim h ts x.2 _ _ (fun j v hv => hc _ _ hv) hr.2⟩
theorem RA_sim {s s' : St} (h : Sim s s') : ∀ (ts : List Ty) (Ts : List TypeId) (x : Ty.Alts ts Ts) (v : Value), RA s ts Ts x v → RA s' ts Ts x v
 | [], _, x, _, _ => nomatch x
 | _ :: _, [], x, _, _ => nomatch x
 | t :: ts, T :: Ts, .inl y, v, hr => by
  simp only [RA] at hr ⊢
  obtain ⟨w, h0, h1⟩ := hr
  exact ⟨w, h0, RV_sim h t y w h1⟩
 | t :: ts, T :: Ts, .inr x, v, hr => by
  simp only [RA] at hr ⊢
  exact RA_sim h ts Ts x v hr
theorem RV_sim {s s' : St} (h : Sim s s') : ∀ (t : Ty) (x : t.El) (v : Value), RV s t x v → RV s' t x v
 | .bool, _, _, hr => by simp only [RV] at hr ⊢; exact hr
 | .int _, _, _, hr => by simp only [RV] at hr ⊢; exact hr
 | .str, _, _, hr => by simp only [RV] at hr ⊢; exact hr
 | .raw _, _, _, hr => by simp only [RV] at hr ⊢; exact hr
 | .sl e, l, v, hr => by
  simp only [RV] at hr ⊢
  obtain ⟨a, cap, h0, hl, hr⟩ := hr
  refine ⟨a, cap, h0, hl, fun hne => ?_⟩
  obtain ⟨b, o, ha, hlt, hb, hx⟩ := hr hne
  exact ⟨b, o, ha, Nat.lt_of_lt_of_le hlt h.size, h.ro hlt hb, fun i x hi => RT_sim h e x _ _ (fun j v hv => h.cell hb hv) (hx i x hi)⟩
 | .st fs, x, v, hr => by
  simp only [RV] at hr ⊢
  obtain ⟨vs, h1, h2, h3, h4⟩ := hr
  exact ⟨vs, h1, h2, RTs_sim h fs x _ _ (fun _ _ hv => hv) h3, h4⟩
 | .ifc Ts ts, x, v, hr => by simp only [RV] at hr ⊢; exact RA_sim h ts Ts x v hr
end
theorem RLst_sim {s s' : St} (h : Sim s s') {t : Ty} {l : List t.El} {v : Value} (hr : RLst s t l v) : RLst s' t l v := by
 obtain ⟨a, cap, h0, hl, hr⟩ := hr
 refine ⟨a, cap, h0, hl, fun hne => ?_⟩
 obtain ⟨b, o, ha, hlt, hb, hx⟩ := hr hne
 exact ⟨b, o, ha, Nat.lt_of_lt_of_le hlt h.size, h.ro hlt hb, fun i x hi => RT_sim h t x _ _ (fun j v hv => h.cell hb hv) (hx i x hi)⟩

mutual
theorem R_sim {s s' : St} (h : Sim s s') : ∀ (a : AV) (v : Value), R s a v → R s' a v
 | .any, _, _ => by simp only [R]
 | .und, v, hr => by simp only [R] at hr ⊢; exact hr
 | .bool b, v, hr => by simp only [R] at hr ⊢; exact hr
 | .int k n, v, hr => by simp only [R] at hr ⊢; exact hr
 | .str x, v, hr => by simp only [R] at hr ⊢; exact hr
 | .raw _ _ _, v, hr => by simp only [R] at hr ⊢; exact hr
 | .nilp, v, hr => by simp only [R] at hr ⊢; exact hr
 | .nsl, v, hr => by simp only [R] at hr ⊢; exact hr
 | .zsl _, v, hr => by simp only [R] at hr ⊢; exact hr
 | .nilfn, v, hr => by simp only [R] at hr ⊢; exact hr
 | .nili, v, hr => by simp only [R] at hr ⊢; exact hr
 | .nilm, v, hr => by simp only [R] at hr ⊢; exact hr
 | .oth id, v, hr => by
  simp only [R] at hr ⊢
  refine ⟨h.kn id hr.1, hr.2.1, fun o ho => ?_⟩
  obtain ⟨h1, o0, h2⟩ := h.oth id o hr.1 ho
  rw [h1]
  exact hr.2.2 o0 h2
 | .ptr id off, v, hr => by
  simp only [R] at hr ⊢
  obtain ⟨hk, b, hv, hr⟩ := hr
  refine ⟨h.kn id hk, b, hv, fun T cs hc => ?_⟩
  obtain ⟨h1, cs0, h2⟩ := h.cells id T cs hk hc
  rw [h1]
  exact hr T cs0 h2
 | .csl id n cap, v, hr => by
  simp only [R] at hr ⊢
  obtain ⟨hk, b, hv, hr⟩ := hr
  refine ⟨h.kn id hk, b, hv, fun T cs hc => ?_⟩
  obtain ⟨h1, cs0, h2⟩ := h.cells id T cs hk hc
  rw [h1]
  exact hr T cs0 h2
 | .optr id g t i off, v, hr => by
  simp only [R] at hr ⊢
  obtain ⟨hk, b, hv, hr⟩ := hr
  refine ⟨h.kn id hk, b, hv, fun T t' l f g1 hc => ?_⟩
  obtain ⟨l0, f0, g0, h1, h2, h3⟩ := h.arr id T t' l f g1 hk hc
  obtain ⟨k1, k2⟩ := hr T t' l0 f0 g0 h1
  refine ⟨Nat.le_trans k1 h2, fun e => ?_⟩
  obtain ⟨e1, e2⟩ := h3 (by omega)
  rw [e1, e2]
  exact k2 (by omega)
 | .pv cs, v, hr => by
  simp only [R] at hr ⊢
  obtain ⟨b, o, hv, hlt, hb, hc⟩ := hr
  exact ⟨b, o, hv, Nat.lt_of_lt_of_le hlt h.size, h.ro hlt hb, RC_sim h cs _ _ (fun j v hv => h.cell hb hv) hc⟩
 | .agg cs, v, hr => by
  simp only [R] at hr ⊢
  obtain ⟨vs, hv, hl, h1⟩ := hr
  exact ⟨vs, hv, RL_sim h cs vs hl, h1⟩
 | .tup cs, v, hr => by
  simp only [R] at hr ⊢
  obtain ⟨vs, hv, hl⟩ := hr
  exact ⟨vs, hv, RL_sim h cs vs hl⟩
 | .lst t l, v, hr => by simp only [R] at hr ⊢; exact RLst_sim h hr
 | .tlst t l, v, hr => by simp only [R] at hr ⊢; exact ⟨RLst_sim h hr.1, hr.2⟩
 | .own id g n, v, hr => by
  simp only [R] at hr ⊢
  obtain ⟨hk, base, cap, hv, hr⟩ := hr
  refine ⟨h.kn id hk, base, cap, hv, fun T t l f g1 hc => ?_⟩
  obtain ⟨l0, f0, g0, h1, h2, h3⟩ := h.arr id T t l f g1 hk hc
  obtain ⟨k1, k2⟩ := hr T t l0 f0 g0 h1
  refine ⟨Nat.le_trans k1 h2, fun e => ?_⟩
  obtain ⟨e1, e2⟩ := h3 (by omega)
  rw [e1, e2]
  exact k2 (by omega)
 | .osl id g lo n, v, hr => by
  simp only [R] at hr ⊢
  obtain ⟨hk, a, cap, hv, hn, hr⟩ := hr
  refine ⟨h.kn id hk, a, cap, hv, hn, fun T t l f g1 hc => ?_⟩
  obtain ⟨l0, f0, g0, h1, h2, h3⟩ := h.arr id T t l f g1 hk hc
  obtain ⟨k1, k2⟩ := hr T t l0 f0 g0 h1
  refine ⟨Nat.le_trans k1 h2, fun e => ?_⟩
  obtain ⟨e1, e2⟩ := h3 (by omega)
  rw [e1, e2]
  exact k2 (by omega)
 | .tosl id g lo n, v, hr => by
  simp only [R] at hr ⊢
  obtain ⟨⟨hk, a, cap, hv, hn, hr⟩, ht⟩ := hr
  refine ⟨⟨h.kn id hk, a, cap, hv, hn, fun T t l f g1 hc => ?_⟩, ht⟩
  obtain ⟨l0, f0, g0, h1, h2, h3⟩ := h.arr id T t l f g1 hk hc
  obtain ⟨k1, k2⟩ := hr T t l0 f0 g0 h1
  refine ⟨Nat.le_trans k1 h2, fun e => ?_⟩
  obtain ⟨e1, e2⟩ := h3 (by omega)
  rw [e1, e2]
  exact k2 (by omega)
 | .fn f first caps, v, hr => by
  simp only [R] at hr ⊢
  obtain ⟨xs, ys, hv, h1, h2⟩ := hr
  exact ⟨xs, ys, hv, RL_sim h first xs h1, RL_sim h caps ys h2⟩
 | .iface t x, v, hr => by
  simp only [R] at hr ⊢
  obtain ⟨y, hv, h1⟩ := hr
  exact ⟨y, hv, R_sim h x y h1⟩
theorem RL_sim {s s' : St} (h : Sim s s') : ∀ (cs : List AV) (vs : List Value), RL s cs vs → RL s' cs vs
 | [], vs, hr => by simp only [RL] at hr ⊢; exact hr
 | c :: cs, vs, hr => by
  simp only [RL] at hr ⊢
  obtain ⟨v, vs', hv, h1, h2⟩ := hr
  exact ⟨v, vs', hv, R_sim h c v h1, RL_sim h cs vs' h2⟩
theorem RC_sim {s s' : St} (h : Sim s s') : ∀ (cs : List AV) (c c' : Nat → Option Value), (∀ j v, c j = some v → c' j = some v) → RC s cs c → RC s' cs c'
 | [], _, _, _, _ => by simp only [RC]
 | x :: cs, c, c', hc, hr => by
  simp only [RC] at hr ⊢
  obtain ⟨⟨v, h0, h1, h2⟩, h3⟩ := hr
  exact ⟨⟨v, hc _ _ h0, R_sim h x v h1, h2⟩, RC_sim h cs _ _ (fun j v hv => hc _ _ hv) h3⟩
end
theorem RT_mono {s s' : St} (h : Step s s') : ∀ (t : Ty) (x : t.El) (c c' : Nat → Option Value), (∀ j v, c j = some v → c' j = some v) → RT s t x c → RT s' t x c' := RT_sim h.sim
theorem RTs_mono {s s' : St} (h : Step s s') : ∀ (ts : List Ty) (x : Ty.Els ts) (c c' : Nat → Option Value), (∀ j v, c j = some v → c' j = some v) → RTs s ts x c → RTs s' ts x c' := RTs_sim h.sim
theorem RV_mono {s s' : St} (h : Step s s') : ∀ (t : Ty) (x : t.El) (v : Value), RV s t x v → RV s' t x v := RV_sim h.sim
theorem R_mono {s s' : St} (h : Step s s') : ∀ (a : AV) (v : Value), R s a v → R s' a v := R_sim h.sim
theorem RL_mono {s s' : St} (h : Step s s') : ∀ (cs : List AV) (vs : List Value), RL s cs vs → RL s' cs vs := RL_sim h.sim
theorem RC_mono {s s' : St} (h : Step s s') : ∀ (cs : List AV) (c c' : Nat → Option Value), (∀ j v, c j = some v → c' j = some v) → RC s cs c → RC s' cs c' := RC_sim h.sim
/-! ### Cells and data -/
theorem RC_append {s : St} : ∀ (xs ys : List AV) (c : Nat → Option Value), RC s (xs ++ ys) c ↔ RC s xs c ∧ RC s ys (fun j => c (xs.length + j))
 | [], ys, c => by simp [RC]
 | x :: xs, ys, c => by
  simp only [List.cons_append, RC, RC_append xs ys, List.length_cons, and_assoc]
  have : ∀ j, xs.length + j + 1 = xs.length + 1 + j := fun j => by omega
  simp only [this]

mutual
theorem flat_length : ∀ (t : Ty) (x : t.El), (flat t x).length = t.size
 | .bool, _ => rfl
 | .int _, _ => rfl
 | .str, _ => rfl
 | .sl _, _ => rfl
 | .ifc _ _, _ => rfl
 | .raw _, _ => rfl
 | .st fs, x => by simp only [flat, Ty.size]; exact flats_length fs x
theorem flats_length : ∀ (ts : List Ty) (x : Ty.Els ts), (flats ts x).length = Ty.sizes ts
 | [], _ => rfl
 | t :: ts, x => by simp only [flats, Ty.sizes, List.length_append]; rw [flat_length t x.1, flats_length ts x.2]
end

theorem RL_vals {s : St} : ∀ {cs : List AV} {vs : List Value}, RL s cs vs → vs.length = cs.length
 | [], vs, h => by simp only [RL] at h; subst h; rfl
 | c :: cs, vs, h => by
  simp only [RL] at h
  obtain ⟨v, vs', rfl, _, h2⟩ := h
  simp [RL_vals h2]
theorem RC_vals {s : St} : ∀ {cs : List AV} {c : Nat → Option Value}, RC s cs c → ∃ vs, RL s cs vs ∧ (∀ u ∈ vs, u.oneCell' = true) ∧ ∀ j v, vs[j]? = some v → c j = some v
 | [], c, h => ⟨[], by simp only [RL], by simp, by simp⟩
 | x :: cs, c, h => by
  simp only [RC] at h
  obtain ⟨⟨v, h0, h1, h2⟩, h3⟩ := h
  obtain ⟨vs, k1, k2, k3⟩ := RC_vals h3
  refine ⟨v :: vs, by simp only [RL]; exact ⟨v, vs, rfl, h1, k1⟩, ?_, ?_⟩
  ·intro u hu
   rcases List.mem_cons.1 hu with rfl | hu
   ·exact h2
   ·exact k2 u hu
  ·intro j u hu
   cases j with
   | zero => simp at hu; subst hu; exact h0
   | succ j => exact k3 j u (by simpa using hu)
theorem RC_of_RL {s : St} : ∀ {cs : List AV} {vs : List Value} {c : Nat → Option Value}, RL s cs vs → (∀ u ∈ vs, u.oneCell' = true) → (∀ j v, vs[j]? = some v → c j = some v) → RC s cs c
 | [], vs, c, h, _, _ => by simp only [RC]
 | x :: cs, vs, c, h, h1, h2 => by
  simp only [RL] at h
  obtain ⟨v, vs', rfl, k1, k2⟩ := h
  simp only [RC]
  exact ⟨⟨v, h2 0 v rfl, k1, h1 v (by simp)⟩, RC_of_RL k2 (fun u hu => h1 u (by simp [hu])) (fun j u hu => h2 (j + 1) u (by simpa using hu))⟩
theorem rawV_R {s : St} (K : Nat) (x : Option Nat) {v : Value} (h : v = .pointer (x.map fun b => ⟨b, 0, none⟩)) : R s (rawV K x) v := by
 cases x <;> (simp only [rawV, R]; exact h)
mutual
theorem RT_RC {s : St} : ∀ (t : Ty) (x : t.El) (c : Nat → Option Value), RT s t x c → RC s (flat t x) c
 | .bool, b, c, h => by simp only [RT] at h; exact ⟨⟨_, h, by simp only [R], rfl⟩, trivial⟩
 | .int _, b, c, h => by simp only [RT] at h; exact ⟨⟨_, h, by simp only [R], rfl⟩, trivial⟩
 | .str, b, c, h => by simp only [RT] at h; exact ⟨⟨_, h, by simp only [R], rfl⟩, trivial⟩
 | .raw K, x, c, h => by simp only [RT] at h; exact ⟨⟨_, h, rawV_R K x rfl, rfl⟩, trivial⟩
 | .sl e, l, c, h => by
  simp only [RT] at h
  obtain ⟨a, cap, h0, h1, h2⟩ := h
  exact ⟨⟨_, h0, by simp only [R]; exact ⟨a, cap, rfl, h1, h2⟩, rfl⟩, trivial⟩
 | .st fs, x, c, h => by simp only [RT, flat] at h ⊢; exact RTs_RC fs x c h
 | .ifc Ts ts, x, c, h => by
  simp only [RT] at h
  obtain ⟨v, h0, h1⟩ := h
  obtain ⟨h2, h3⟩ := RA_R ts Ts x v h1
  exact ⟨⟨v, h0, h2, h3⟩, trivial⟩
theorem RTs_RC {s : St} : ∀ (ts : List Ty) (x : Ty.Els ts) (c : Nat → Option Value), RTs s ts x c → RC s (flats ts x) c
 | [], _, _, _ => by simp only [flats, RC]
 | t :: ts, x, c, h => by
  simp only [RTs, flats] at h ⊢
  rw [RC_append]
  refine ⟨RT_RC t x.1 c h.1, ?_⟩
  rw [flat_length]
  exact RTs_RC ts x.2 _ h.2
theorem RA_R {s : St} : ∀ (ts : List Ty) (Ts : List TypeId) (x : Ty.Alts ts Ts) (v : Value), RA s ts Ts x v → R s (altV ts Ts x) v ∧ v.oneCell' = true
 | [], _, x, _, _ => nomatch x
 | _ :: _, [], x, _, _ => nomatch x
 | t :: ts, T :: Ts, .inl y, v, h => by
  simp only [RA] at h
  obtain ⟨w, rfl, h1⟩ := h
  simp only [altV, R]
  exact ⟨⟨w, rfl, avV_R t y w h1⟩, rfl⟩
 | t :: ts, T :: Ts, .inr x, v, h => by
  simp only [RA] at h
  simp only [altV]
  exact RA_R ts Ts x v h
theorem avV_R {s : St} : ∀ (t : Ty) (x : t.El) (v : Value), RV s t x v → R s (avV t x) v
 | .bool, b, v, h => by simp only [RV] at h; simp only [avV, R]; exact h
 | .int k, n, v, h => by simp only [RV] at h; simp only [avV, R]; exact h
 | .str, x, v, h => by simp only [RV] at h; simp only [avV, R]; exact h
 | .raw K, x, v, h => by simp only [RV] at h; simp only [avV]; exact rawV_R K x h
 | .sl e, l, v, h => by simp only [RV] at h; simp only [avV, R]; exact h
 | .st fs, x, v, h => by
  simp only [RV] at h
  obtain ⟨vs, hv, hl, h1, h2⟩ := h
  obtain ⟨us, k1, k2, k3⟩ := RC_vals (RTs_RC fs x _ h1)
  have hus : us.length = vs.length := by rw [RL_vals k1, flats_length, hl]
  have : us = vs := by
   apply List.ext_getElem?
   intro j
   by_cases hj : j < us.length
   ·rw [List.getElem?_eq_getElem hj]
    exact (k3 j _ (List.getElem?_eq_getElem hj)).symm
   ·rw [List.getElem?_eq_none (by omega), List.getElem?_eq_none (by omega)]
  subst this
  simp only [avV, R]
  exact ⟨us, hv, k1, h2⟩
 | .ifc Ts ts, x, v, h => by simp only [RV] at h; simp only [avV]; exact (RA_R ts Ts x v h).1
end

def natsEq : List Nat → List Nat → Bool
 | [], [] => true
 | a :: as, b :: bs => Nat.beq a b && natsEq as bs
 | _, _ => false
theorem natsEq_eq : ∀ {a b : List Nat}, natsEq a b = true → a = b
 | [], [], _ => rfl
 | [], _ :: _, h => by simp [natsEq] at h
 | _ :: _, [], h => by simp [natsEq] at h
 | a :: as, b :: bs, h => by
  simp only [natsEq, Bool.and_eq_true] at h
  rw [Nat.eq_of_beq_eq_true h.1, natsEq_eq h.2]
mutual
def Ty.beq : Ty → Ty → Bool
 | .bool, .bool => true
 | .int a, .int b => decide (a = b)
 | .str, .str => true
 | .sl a, .sl b => Ty.beq a b
 | .st a, .st b => Ty.beqs a b
 | .ifc Ts a, .ifc Us b => natsEq Ts Us && Ty.beqs a b
 | .raw a, .raw b => Nat.beq a b
 | _, _ => false
def Ty.beqs : List Ty → List Ty → Bool
 | [], [] => true
 | a :: as, b :: bs => Ty.beq a b && Ty.beqs as bs
 | _, _ => false
end
mutual
theorem Ty.eq_of_beq : ∀ (a b : Ty), Ty.beq a b = true → a = b
 | .bool, b, h => by cases b <;> simp_all [Ty.beq]
 | .int a, b, h => by cases b <;> simp_all [Ty.beq]
 | .str, b, h => by cases b <;> simp_all [Ty.beq]
 | .raw K, b, h => by cases b <;> simp_all [Ty.beq]
 | .sl a, b, h => by
  cases b <;> simp [Ty.beq] at h
  rw [Ty.eq_of_beq a _ h]
 | .st a, b, h => by
  cases b <;> simp [Ty.beq] at h
  rw [Ty.eq_of_beqs a _ h]
 | .ifc Ts a, b, h => by
  cases b <;> simp [Ty.beq] at h
  rw [natsEq_eq h.1, Ty.eq_of_beqs a _ h.2]
theorem Ty.eq_of_beqs : ∀ (a b : List Ty), Ty.beqs a b = true → a = b
 | [], b, h => by cases b <;> simp_all [Ty.beqs]
 | a :: as, b, h => by
  cases b with
  | nil => simp [Ty.beqs] at h
  | cons b bs =>
   simp [Ty.beqs] at h
   rw [Ty.eq_of_beq a b h.1, Ty.eq_of_beqs as bs h.2]
end

def castL {a b : Ty} (l : List a.El) : Option (List b.El) :=
 match h : Ty.beq a b with
 | true => some (Ty.eq_of_beq a b h ▸ l)
 | false => none
theorem castL_eq {a b : Ty} {l : List a.El} {m : List b.El} (h : castL (b := b) l = some m) : ∃ e : a = b, e ▸ l = m := by
 unfold castL at h
 split at h
 ·rename_i hb
  exact ⟨Ty.eq_of_beq a b hb, Option.some.inj h⟩
 ·cases h

def dBool (a : AV) : Option Bool := match a with | .bool b => some b | _ => none
def dInt (k' : IntKind) (a : AV) : Option Int := match a with | .int k n => if k = k' then some n else none | _ => none
def dStr (a : AV) : Option ByteArray := match a with | .str b => some b | _ => none
def dRaw (K : Nat) (a : AV) : Option (Option Nat) := match a with | .nilp => some none | .raw K' b o => if Nat.beq K' K && Nat.beq o 0 then some (some b) else none | _ => none
def dLst (e : Ty) (a : AV) : Option (List e.El) := match a with | .lst _ l => castL l | .tlst _ l => castL l | .zsl _ => some [] | _ => none
def d1 {β : Type} (f : AV → Option β) (cs : List AV) : Option β := match cs with | [c] => f c | _ => none
theorem d1_some {β : Type} {f : AV → Option β} {cs : List AV} {x : β} (h : d1 f cs = some x) : ∃ c, cs = [c] ∧ f c = some x := by
 unfold d1 at h
 split at h
 ·exact ⟨_, rfl, h⟩
 ·cases h
mutual
def dec : (t : Ty) → List AV → Option t.El
 | .st fs, cs => decs fs cs
 | .bool, cs => d1 dBool cs
 | .int k, cs => d1 (dInt k) cs
 | .str, cs => d1 dStr cs
 | .sl e, cs => d1 (dLst e) cs
 | .ifc Ts ts, cs => d1 (decA ts Ts) cs
 | .raw K, cs => d1 (dRaw K) cs
def decs : (ts : List Ty) → List AV → Option (Ty.Els ts)
 | [], cs => match cs with | [] => some () | _ => none
 | t :: ts, cs =>
  match dec t (cs.take t.size), decs ts (cs.drop t.size) with
  | some x, some y => some (x, y)
  | _, _ => none
def decA : (ts : List Ty) → (Ts : List TypeId) → AV → Option (Ty.Alts ts Ts)
 | [], _, _ => none
 | _ :: _, [], _ => none
 | t :: ts, T :: Ts, a => match a with
  | .iface T' v => match Nat.beq T T' with
   | true => match valD t v with | some y => some (.inl y) | none => none
   | false => match decA ts Ts a with | some x => some (.inr x) | none => none
  | _ => none
def valD : (t : Ty) → AV → Option t.El
 | .st fs, v => match v with
  | .agg cs => decs fs cs
  | _ => none
 | .bool, v => dBool v
 | .int k, v => dInt k v
 | .str, v => dStr v
 | .sl e, v => dLst e v
 | .ifc Ts ts, v => decA ts Ts v
 | .raw K, v => dRaw K v
end

theorem dec1_key {s : St} {t' e : Ty} {l : List t'.El} {m : List e.El} {c : Nat → Option Value} {v : Value} (hc : c 0 = some v) (hm : castL l = some m) (hl : RLst s t' l v) : RT s (.sl e) m c := by
 obtain ⟨he, hm⟩ := castL_eq hm
 subst he
 subst hm
 obtain ⟨a, cap, h0, h1, h2⟩ := hl
 simp only [RT]
 exact ⟨a, cap, by rw [hc, h0], h1, h2⟩
theorem dBool_RT {s : St} {a : AV} {x : Bool} (h : dBool a = some x) {c : Nat → Option Value} {v : Value} (hc : c 0 = some v) (hr : R s a v) : RT s .bool x c := by
 unfold dBool at h
 split at h
 ·cases h; simp only [R] at hr; simp only [RT]; rw [hc, hr]
 ·cases h
theorem dInt_RT {s : St} {k : IntKind} {a : AV} {x : Int} (h : dInt k a = some x) {c : Nat → Option Value} {v : Value} (hc : c 0 = some v) (hr : R s a v) : RT s (.int k) x c := by
 unfold dInt at h
 split at h
 ·split at h
  ·rename_i hk; subst hk; cases h; simp only [R] at hr; simp only [RT]; rw [hc, hr]
  ·cases h
 ·cases h
theorem dStr_RT {s : St} {a : AV} {x : ByteArray} (h : dStr a = some x) {c : Nat → Option Value} {v : Value} (hc : c 0 = some v) (hr : R s a v) : RT s .str x c := by
 unfold dStr at h
 split at h
 ·cases h; simp only [R] at hr; simp only [RT]; rw [hc, hr]
 ·cases h
theorem dRaw_RT {s : St} {K : Nat} {a : AV} {x : Option Nat} (h : dRaw K a = some x) {c : Nat → Option Value} {v : Value} (hc : c 0 = some v) (hr : R s a v) : RT s (.raw K) x c := by
 unfold dRaw at h
 split at h
 ·cases h; simp only [R] at hr; simp only [RT]; rw [hc, hr]; rfl
 ·split at h
  ·rename_i hb
   rw [Bool.and_eq_true] at hb
   have h0 := Nat.eq_of_beq_eq_true hb.2
   cases h; simp only [R] at hr; simp only [RT]; rw [hc, hr, h0]; rfl
  ·cases h
 ·cases h
theorem dLst_RT {s : St} {e : Ty} {a : AV} {x : List e.El} (h : dLst e a = some x) {c : Nat → Option Value} {v : Value} (hc : c 0 = some v) (hr : R s a v) : RT s (.sl e) x c := by
 unfold dLst at h
 split at h
 ·simp only [R] at hr; exact dec1_key hc h hr
 ·simp only [R] at hr; exact dec1_key hc h hr.1
 ·simp only [R] at hr
  subst hr
  cases h
  simp only [RT]
  exact ⟨none, 0, hc, Nat.le_refl _, fun h => absurd rfl h⟩
 ·cases h

theorem RC_take_drop {s : St} (cs : List AV) (n : Nat) (c : Nat → Option Value) (hn : n ≤ cs.length) (h : RC s cs c) : RC s (cs.take n) c ∧ RC s (cs.drop n) (fun j => c (n + j)) := by
 have := (RC_append (s := s) (cs.take n) (cs.drop n) c).1 (by rw [List.take_append_drop]; exact h)
 rw [List.length_take, Nat.min_eq_left hn] at this
 exact this
mutual
theorem dec_size : ∀ (t : Ty) (cs : List AV) (x : t.El), dec t cs = some x → cs.length = t.size
 | .bool, cs, x, h => by simp only [dec] at h; obtain ⟨c, rfl, _⟩ := d1_some h; rfl
 | .int k, cs, x, h => by simp only [dec] at h; obtain ⟨c, rfl, _⟩ := d1_some h; rfl
 | .str, cs, x, h => by simp only [dec] at h; obtain ⟨c, rfl, _⟩ := d1_some h; rfl
 | .raw K, cs, x, h => by simp only [dec] at h; obtain ⟨c, rfl, _⟩ := d1_some h; rfl
 | .sl e, cs, x, h => by simp only [dec] at h; obtain ⟨c, rfl, _⟩ := d1_some h; rfl
 | .st fs, cs, x, h => by simp only [dec] at h; simp only [Ty.size]; exact decs_size fs cs x h
 | .ifc Ts ts, cs, x, h => by simp only [dec] at h; obtain ⟨c, rfl, _⟩ := d1_some h; rfl
theorem decs_size : ∀ (ts : List Ty) (cs : List AV) (x : Ty.Els ts), decs ts cs = some x → cs.length = Ty.sizes ts
 | [], cs, x, h => by
  simp only [decs] at h
  split at h
  ·rfl
  ·cases h
 | t :: ts, cs, x, h => by
  simp only [decs] at h
  split at h
  ·rename_i x y hx hy
   have h1 := dec_size t _ x hx
   have h2 := decs_size ts _ y hy
   simp only [List.length_take, List.length_drop] at h1 h2
   simp only [Ty.sizes]
   omega
  ·cases h
end
mutual
theorem dec_RT {s : St} : ∀ (t : Ty) (cs : List AV) (x : t.El) (c : Nat → Option Value), dec t cs = some x → RC s cs c → RT s t x c
 | .bool, cs, x, c, h, hc => by simp only [dec] at h; obtain ⟨a, rfl, h⟩ := d1_some h; obtain ⟨⟨v, h0, h1, _⟩, _⟩ := hc; exact dBool_RT h h0 h1
 | .int k, cs, x, c, h, hc => by simp only [dec] at h; obtain ⟨a, rfl, h⟩ := d1_some h; obtain ⟨⟨v, h0, h1, _⟩, _⟩ := hc; exact dInt_RT h h0 h1
 | .str, cs, x, c, h, hc => by simp only [dec] at h; obtain ⟨a, rfl, h⟩ := d1_some h; obtain ⟨⟨v, h0, h1, _⟩, _⟩ := hc; exact dStr_RT h h0 h1
 | .raw K, cs, x, c, h, hc => by simp only [dec] at h; obtain ⟨a, rfl, h⟩ := d1_some h; obtain ⟨⟨v, h0, h1, _⟩, _⟩ := hc; exact dRaw_RT h h0 h1
 | .sl e, cs, x, c, h, hc => by simp only [dec] at h; obtain ⟨a, rfl, h⟩ := d1_some h; obtain ⟨⟨v, h0, h1, _⟩, _⟩ := hc; exact dLst_RT h h0 h1
 | .st fs, cs, x, c, h, hc => by simp only [dec] at h; simp only [RT]; exact decs_RT fs cs x c h hc
 | .ifc Ts ts, cs, x, c, h, hc => by
  simp only [dec] at h
  obtain ⟨a, rfl, h⟩ := d1_some h
  obtain ⟨⟨v, h0, h1, _⟩, _⟩ := hc
  simp only [RT]
  exact ⟨v, h0, decA_RA ts Ts a x v h h1⟩
theorem decs_RT {s : St} : ∀ (ts : List Ty) (cs : List AV) (x : Ty.Els ts) (c : Nat → Option Value), decs ts cs = some x → RC s cs c → RTs s ts x c
 | [], cs, x, c, h, hc => by simp only [RTs]
 | t :: ts, cs, x, c, h, hc => by
  have hsz := decs_size (t :: ts) cs x h
  simp only [Ty.sizes] at hsz
  simp only [decs] at h
  split at h
  ·rename_i x' y' hx hy
   cases h
   obtain ⟨h1, h2⟩ := RC_take_drop cs t.size c (by omega) hc
   simp only [RTs]
   exact ⟨dec_RT t _ x' c hx h1, decs_RT ts _ y' _ hy h2⟩
  ·cases h
theorem decA_RA {s : St} : ∀ (ts : List Ty) (Ts : List TypeId) (a : AV) (x : Ty.Alts ts Ts) (v : Value), decA ts Ts a = some x → R s a v → RA s ts Ts x v
 | [], _, _, x, _, _, _ => nomatch x
 | _ :: _, [], _, x, _, _, _ => nomatch x
 | t :: ts, T :: Ts, a, x, v, h, hr => by
  simp only [decA] at h
  split at h
  ·rename_i T' u
   split at h
   ·rename_i hb
    have := Nat.eq_of_beq_eq_true hb
    subst this
    split at h
    ·rename_i y hy
     cases h
     simp only [R] at hr
     obtain ⟨w, hv, h1⟩ := hr
     simp only [RA]
     exact ⟨w, hv, valD_RV t u y w hy h1⟩
    ·cases h
   ·split at h
    ·rename_i y hy
     cases h
     simp only [RA]
     exact decA_RA ts Ts _ y v hy hr
    ·cases h
  ·cases h
theorem valD_RV {s : St} : ∀ (t : Ty) (v : AV) (x : t.El) (cv : Value), valD t v = some x → R s v cv → RV s t x cv
 | .bool, v, x, cv, h, hr => by
  simp only [valD] at h
  have := dBool_RT (c := fun _ => some cv) h rfl hr
  simp only [RT] at this
  simp only [RV]
  exact Option.some.inj this
 | .int k, v, x, cv, h, hr => by
  simp only [valD] at h
  have := dInt_RT (c := fun _ => some cv) h rfl hr
  simp only [RT] at this
  simp only [RV]
  exact Option.some.inj this
 | .str, v, x, cv, h, hr => by
  simp only [valD] at h
  have := dStr_RT (c := fun _ => some cv) h rfl hr
  simp only [RT] at this
  simp only [RV]
  exact Option.some.inj this
 | .raw K, v, x, cv, h, hr => by
  simp only [valD] at h
  have := dRaw_RT (c := fun _ => some cv) h rfl hr
  simp only [RT] at this
  simp only [RV]
  exact Option.some.inj this
 | .sl e, v, x, cv, h, hr => by
  simp only [valD] at h
  have := dLst_RT (c := fun _ => some cv) h rfl hr
  simp only [RT] at this
  obtain ⟨a, cap, h0, h1, h2⟩ := this
  simp only [RV]
  exact ⟨a, cap, Option.some.inj h0, h1, h2⟩
 | .st fs, v, x, cv, h, hr => by
  cases v <;> simp only [valD] at h <;> first | (cases h; done) | skip
  rename_i cs
  simp only [R] at hr
  obtain ⟨vs, rfl, h1, h2⟩ := hr
  have hsz := decs_size fs cs x h
  simp only [RV]
  refine ⟨vs, rfl, by rw [RL_vals h1, hsz], ?_, h2⟩
  exact decs_RT fs cs x _ h (RC_of_RL h1 h2 (fun _ _ hv => hv))
 | .ifc Ts ts, v, x, cv, h, hr => by
  simp only [valD] at h
  simp only [RV]
  exact decA_RA ts Ts v x cv h hr
end
end Av
