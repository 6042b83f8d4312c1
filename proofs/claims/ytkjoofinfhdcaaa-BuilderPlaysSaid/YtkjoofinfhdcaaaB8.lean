/-
  From a row's arguments to the reckoning: whatever data come in, they are lists and tuples; a law that is reckoned to return true does so in the model.
  Ascending lists of entries: their first fault, by both; whether two are the same.
  Of, by the builder and by the reference; whether two runs are the same.
  Whether the builder is awake.
  The examples of the builder, and builders that are none.
  What a builder and its fork come to. Plain Lean.
-/
import Derived.Test.YtkjoofinfhdcaaaE5
import Derived.ProofKit
import Derived.Deep.Slices
import Derived.Lib.SmallJoins
import Derived.ChangeMaps5
import Derived.OpenShut
namespace Av
open Go Go.ChangeShapes Go.WideShapes Go.ChangeAt Go.RowKit Go.Joins Go.Deep

/-! ### Data that a program can hold -/
mutual
def tyOk : (t : Ty) → t.El → Prop
 | .bool, _ => True
 | .int k, n => inR k n
 | .str, s => ByteArray.size s ≤ 9223372036854775807
 | .sl e, l => let l' : List e.El := l; l'.length ≤ 9223372036854775807 ∧ ∀ x ∈ l', tyOk e x
 | .st fs, x => tyOks fs x
 | .ifc _ _, _ => True
 | .raw _, _ => True
def tyOks : (ts : List Ty) → Ty.Els ts → Prop
 | [], _ => True
 | t :: ts, x => tyOk t x.1 ∧ tyOks ts x.2
end
/-! The same, of a bounded size -/
mutual
def tyB (N : Nat) : (t : Ty) → t.El → Prop
 | .bool, _ => True
 | .int _, _ => True
 | .str, s => ByteArray.size s ≤ N
 | .sl e, l => let l' : List e.El := l; l'.length ≤ N ∧ ∀ x ∈ l', tyB N e x
 | .st fs, x => tyBs N fs x
 | .ifc _ _, _ => True
 | .raw _, _ => True
def tyBs (N : Nat) : (ts : List Ty) → Ty.Els ts → Prop
 | [], _ => True
 | t :: ts, x => tyB N t x.1 ∧ tyBs N ts x.2
end
mutual
theorem tyB_mono {N M : Nat} (h : N ≤ M) : ∀ (t : Ty) (e : t.El), tyB N t e → tyB M t e
 | .bool, _, _ => by simp only [tyB]
 | .int _, _, _ => by simp only [tyB]
 | .str, s, hs => by simp only [tyB] at hs ⊢; omega
 | .sl e, l, hl => by
  simp only [tyB] at hl ⊢
  exact ⟨Nat.le_trans hl.1 h, fun x hx => tyB_mono h e x (hl.2 x hx)⟩
 | .st fs, x, hx => by
  simp only [tyB] at hx ⊢
  exact tyBs_mono h fs x hx
 | .ifc _ _, _, _ => by simp only [tyB]
 | .raw _, _, _ => by simp only [tyB]
theorem tyBs_mono {N M : Nat} (h : N ≤ M) : ∀ (ts : List Ty) (e : Ty.Els ts), tyBs N ts e → tyBs M ts e
 | [], _, _ => by simp only [tyBs]
 | t :: ts, x, hx => by
  simp only [tyBs] at hx ⊢
  exact ⟨tyB_mono h t x.1 hx.1, tyBs_mono h ts x.2 hx.2⟩
end
structure Meas {H : Type} (m : DataW H → Nat) : Prop where
 str : ∀ b, b.length ≤ m (.lit (.string b))
 sl : ∀ es sp, es.length ≤ m (.slice es sp)
 slE : ∀ es sp d, d ∈ es → m d ≤ m (.slice es sp)
 agg : ∀ ps d, d ∈ ps → m d ≤ m (.agg ps)
def tyO {H : Type} (D : DataW H) (t : Ty) (e : t.El) : Prop := tyOk t e ∧ ∀ m : DataW H → Nat, Meas m → tyB (m D) t e
def tyOs {H : Type} (D : DataW H) (ts : List Ty) (e : Ty.Els ts) : Prop := tyOks ts e ∧ ∀ m : DataW H → Nat, Meas m → tyBs (m D) ts e
theorem tyOs_cons {H : Type} {D D1 : DataW H} {t : Ty} {ts : List Ty} {e : t.El} {es : Ty.Els ts} (h : ∀ m, Meas m → m D1 ≤ m D) (h1 : tyO D1 t e) (h2 : tyOs D ts es) : tyOs D (t :: ts) (e, es) :=
 ⟨by simp only [tyOks]; exact ⟨h1.1, h2.1⟩, fun m hm => by simp only [tyBs]; exact ⟨tyB_mono (h m hm) t e (h1.2 m hm), h2.2 m hm⟩⟩
theorem tyOs_nil {H : Type} {D : DataW H} : tyOs D [] () := ⟨by simp only [tyOks], fun m hm => by simp only [tyBs]⟩
def avT : (t : Ty) → t.El → AV
 | .bool, b => .bool b
 | .int k, n => .int k n
 | .str, s => .str s
 | .sl e, l => .lst e l
 | .st fs, x => .agg (flats fs x)
 | .ifc Ts ts, x => altV ts Ts x
 | .raw K, x => rawV K x
def avTs : (ts : List Ty) → Ty.Els ts → List AV
 | [], _ => []
 | t :: ts, x => avT t x.1 :: avTs ts x.2

/-! ### Which type of the program is which type of data -/
def chkGs (P : Program) (chk : TypeId → Ty → Bool) : List Field → List Ty → Nat → Bool
 | [], [], _ => true
 | f :: fs, t :: ts, off => Nat.beq f.offset off && (chk f.type t && chkGs P chk fs ts (off + t.size))
 | _, _, _ => false
def chkAr (chk : Ty → Bool) (z : Nat) : List Ty → Bool
 | [] => true
 | t :: ts => (Nat.beq t.size z && chk t) && chkAr chk z ts
def chkG (P : Program) : Nat → TypeId → Ty → Bool
 | 0, _, _ => false
 | d + 1, T, t => Nat.beq (P.cellsOf T) t.size && (Nat.ble 1 t.size && match t, P.underlying T with
  | .bool, some .bool => true
  | .int k, some (.int k') => decide (k = k')
  | .str, some .string => true
  | .sl e, some (.slice E) => chkG P d E e
  | .st ts, some (.struct gs) => chkGs P (chkG P d) gs.toList ts 0
  | .st ts, some (.array n E) => Nat.beq ts.length n && chkAr (chkG P d E) (P.cellsOf E) ts
  | _, _ => false)
def chkAll (P : Program) : List TypeId → List Ty → Bool
 | [], [] => true
 | T :: Ts, t :: ts => chkG P 50 T t && chkAll P Ts ts
 | _, _ => false

theorem wf_inR {k : IntKind} {n : Int} (h : (Lit.int k n).wf = true) : inR k n := by
 simp only [Lit.wf, Bool.and_eq_true, decide_eq_true_eq] at h
 cases k <;> simp [IntKind.min, IntKind.max, IntKind.bits, IntKind.signed] at h <;> simp only [inR] <;> omega
theorem exists_list {α : Type} {p : Nat → α → Prop} : ∀ (n : Nat), (∀ i, i < n → ∃ x, p i x) → ∃ l : List α, l.length = n ∧ ∀ i x, l[i]? = some x → p i x
 | 0, _ => ⟨[], rfl, fun i x h => by simp at h⟩
 | n + 1, h => by
  obtain ⟨l, hl, hp⟩ := exists_list n (fun i hi => h i (by omega))
  obtain ⟨x, hx⟩ := h n (by omega)
  refine ⟨l ++ [x], by simp [hl], fun i y hy => ?_⟩
  by_cases hi : i < l.length
  ·rw [List.getElem?_append_left hi] at hy; exact hp i y hy
  ·rw [List.getElem?_append_right (by omega)] at hy
   have h0 : i - l.length = 0 := by
    have := (List.getElem?_eq_some_iff.1 hy).1
    simp at this; omega
   rw [h0] at hy
   simp at hy
   subst hy
   rw [show i = n by omega]
   exact hx
theorem spot_none' {w : World} {a : Addr} {v : Value} (h : w.cell? a = some v) : a.spot = none := by
 unfold World.cell? at h
 split at h
 ·cases hs : a.spot with
  | none => rfl
  | some s => simp [hs] at h
 ·cases h
theorem add_at' {a : Addr} (h : a.spot = none) (k : Nat) : a.add k = ⟨a.block, a.off + k, none⟩ := by
 obtain ⟨b, o, s⟩ := a
 simp only at h
 subst h
 unfold Addr.add
 split <;> simp_all

section
variable {H : Type} {enc : TypeId × Value → H} {P : Program} {w : World} {base : Nat} {spare : Nat → Bool} {held : Bool}
theorem open_fs {s : St} {chk : TypeId → Ty → Bool} {n : Nat} {cs : List Value} {D : DataW H}
  (ih : ∀ (t : Ty) (T : TypeId) (cs : List Value) (x : DataW H × List MemPlace), chk T t = true → DataW.trod enc P w base spare held n T cs = some x → ∃ e : t.El, RT s t e (fun j => cs[j]?) ∧ tyO x.1 t e) :
  ∀ (gs : List Field) (ts : List Ty) (off : Nat), chkGs P chk gs ts off = true → (∀ f ∈ gs, ∃ y, DataW.trod enc P w base spare held n f.type ((cs.drop f.offset).take (P.cellsOf f.type)) = some y ∧ ∀ m, Meas m → m y.1 ≤ m D) → ∃ e : Ty.Els ts, RTs s ts e (fun j => cs[off + j]?) ∧ tyOs D ts e
 | [], [], _, _, _ => ⟨(), by simp only [RTs], tyOs_nil⟩
 | [], _ :: _, _, h, _ => by simp [chkGs] at h
 | _ :: _, [], _, h, _ => by simp [chkGs] at h
 | f :: gs, t :: ts, off, h, hf => by
  simp only [chkGs, Bool.and_eq_true] at h
  obtain ⟨h1, h2, h3⟩ := h
  obtain ⟨y, hy, hym⟩ := hf f (by simp)
  obtain ⟨e, he, hok⟩ := ih t f.type _ y h2 hy
  obtain ⟨es, hes, hoks⟩ := open_fs ih gs ts (off + t.size) h3 (fun g hg => hf g (by simp [hg]))
  have h1 := Nat.eq_of_beq_eq_true h1
  refine ⟨(e, es), ?_, ?_⟩
  ·simp only [RTs]
   refine ⟨RT_mono (Step.refl s) t e _ _ (fun j v hv => ?_) he, ?_⟩
   ·rw [List.getElem?_take] at hv
    split at hv
    ·rw [List.getElem?_drop, h1] at hv; exact hv
    ·cases hv
   ·simp only [← Nat.add_assoc]
    exact hes
  ·exact tyOs_cons hym hok hoks
theorem open_ar {s : St} {chk : Ty → Bool} {n z : Nat} {E : TypeId} {cs : List Value} {D : DataW H}
  (ih : ∀ (t : Ty) (cs : List Value) (x : DataW H × List MemPlace), chk t = true → DataW.trod enc P w base spare held n E cs = some x → ∃ e : t.El, RT s t e (fun j => cs[j]?) ∧ tyO x.1 t e) :
  ∀ (ts : List Ty) (k : Nat), chkAr chk z ts = true → (∀ i, i < ts.length → ∃ y, DataW.trod enc P w base spare held n E ((cs.drop ((k + i) * z)).take z) = some y ∧ ∀ m, Meas m → m y.1 ≤ m D) → ∃ e : Ty.Els ts, RTs s ts e (fun j => cs[k * z + j]?) ∧ tyOs D ts e
 | [], _, _, _ => ⟨(), by simp only [RTs], tyOs_nil⟩
 | t :: ts, k, h, hf => by
  simp only [chkAr, Bool.and_eq_true] at h
  obtain ⟨⟨h1, h2⟩, h3⟩ := h
  obtain ⟨y, hy, hym⟩ := hf 0 (by simp)
  obtain ⟨e, he, hok⟩ := ih t _ y h2 hy
  obtain ⟨es, hes, hoks⟩ := open_ar ih ts (k + 1) h3 (fun i hi => by
   have := hf (i + 1) (by simpa using hi)
   rwa [show k + (i + 1) = k + 1 + i by omega] at this)
  have h1 := Nat.eq_of_beq_eq_true h1
  refine ⟨(e, es), ?_, ?_⟩
  ·simp only [RTs]
   refine ⟨RT_mono (Step.refl s) t e _ _ (fun j v hv => ?_) he, ?_⟩
   ·rw [List.getElem?_take] at hv
    split at hv
    ·rw [List.getElem?_drop, Nat.add_zero] at hv; exact hv
    ·cases hv
   ·rw [h1]
    simp only [← Nat.add_assoc]
    rw [Nat.add_mul, Nat.one_mul] at hes
    exact hes
  ·exact tyOs_cons hym hok hoks
theorem open_ty {s : St} (hw : s.w = w) (hF : ∀ b, ¬ Own s b) : ∀ (d : Nat) (t : Ty) (T : TypeId) (fuel : Nat) (cs : List Value) (x : DataW H × List MemPlace), chkG P d T t = true → DataW.trod enc P w base spare held fuel T cs = some x → ∃ e : t.El, RT s t e (fun j => cs[j]?) ∧ tyO x.1 t e
 | 0, t, T, fuel, cs, x, h, _ => by simp [chkG] at h
 | d + 1, t, T, fuel, cs, x, h, hx => by
  simp only [chkG, Bool.and_eq_true] at h
  obtain ⟨hz, hq, h⟩ := h
  split at h
  ·rename_i hu
   obtain ⟨b, rfl, _⟩ := DataW.trod_bool hu hx
   exact ⟨b, by simp [RT], by simp only [tyOk], fun m hm => by simp only [tyB]⟩
  ·rename_i k k' hu
   have := of_decide_eq_true h
   subst this
   obtain ⟨b, rfl, _, hwf⟩ := DataW.trod_int hu hx
   exact ⟨b, by simp [RT], by simp only [tyOk]; exact wf_inR hwf, fun m hm => by simp only [tyB]⟩
  ·rename_i hu
   obtain ⟨b, rfl, rfl, hsz⟩ := DataW.trod_string hu hx
   exact ⟨b, by simp [RT], by simp only [tyOk]; exact hsz, fun m hm => by
    have h1 := hm.str b.data.toList
    simp only [tyB]
    have h2 : b.data.toList.length = b.size := rfl
    omega⟩
  ·rename_i e E hu
   have hcE : P.cellsOf E = e.size ∧ 1 ≤ e.size := by
    cases d with
    | zero => simp [chkG] at h
    | succ d =>
     simp only [chkG, Bool.and_eq_true] at h
     exact ⟨Nat.eq_of_beq_eq_true h.1, Nat.le_of_ble_eq_true h.2.1⟩
   rcases open_slice hu hx with ⟨rfl, _⟩ | ⟨a, len, cap, m, n, D, Pl, rfl, hb, hl, hm, hmm, rfl, hel⟩
   ·refine ⟨[], ?_, ?_, fun m hm => ?_⟩
    ·simp only [RT]
     exact ⟨none, 0, rfl, Nat.le_refl _, fun h => absurd rfl h⟩
    ·simp only [tyOk]
     exact ⟨by show 0 ≤ _; omega, fun x hx => by cases hx⟩
    ·simp only [tyB]
     exact ⟨Nat.zero_le _, fun x hx => by cases hx⟩
   ·have hlm : len ≤ m := by rw [hmm]; split <;> omega
    have hsp : 0 < len → a.spot = none := by
     intro h0
     obtain ⟨cs', h1, h2⟩ := hel 0 (by omega)
     rw [hcE.1] at h1
     obtain ⟨_, hlen, hc⟩ := World.cells?_some h1
     have hcell0 := hc 0 (by omega)
     rw [Deep.add_add, Nat.zero_mul, show a.add (0 + 0) = a from by simp [Addr.add]] at hcell0
     exact spot_none' (hcell0.trans (List.getElem?_eq_getElem (by omega)))
    have hall : ∀ i, i < len → ∃ y : e.El, (a.spot = none ∧ a.block < w.heap.size ∧ RT s e y (fun j => w.cell? ⟨a.block, a.off + i * e.size + j, none⟩)) ∧ tyO (D i) e y := by
     intro i hi
     obtain ⟨cs', h1, h2⟩ := hel i (by omega)
     obtain ⟨y, hy, hok⟩ := open_ty hw hF d e E n cs' _ h h2
     rw [hcE.1] at h1
     obtain ⟨_, hlen, hc⟩ := World.cells?_some h1
     have hsp := hsp (by omega)
     have hcell0 := hc 0 (by omega)
     rw [Deep.add_add] at hcell0
     have h0 : ∃ v, w.cell? (a.add (i * e.size + 0)) = some v := ⟨_, hcell0.trans (List.getElem?_eq_getElem (by omega))⟩
     obtain ⟨v0, h0⟩ := h0
     have hlt : a.block < w.heap.size := by
      have := World.block_lt_of_cell? w _ h0
      rw [add_at' hsp] at this
      exact this
     refine ⟨y, ⟨hsp, hlt, RT_mono (Step.refl s) e y _ _ (fun j v hv => ?_) hy⟩, hok⟩
     have hj : j < e.size := by have := (List.getElem?_eq_some_iff.1 hv).1; omega
     have h3 := hc j hj
     rw [Deep.add_add, add_at' hsp, ← Nat.add_assoc] at h3
     rw [h3]; exact hv
    obtain ⟨l, hll, hlp⟩ := exists_list len hall
    refine ⟨l, ?_, ?_, fun m' hm' => ?_⟩
    ·simp only [RT]
     refine ⟨some a, cap, by rw [hll]; rfl, by rw [hll]; exact hl, fun hne => ?_⟩
     have hpos : 0 < l.length := List.length_pos_iff.2 hne
     obtain ⟨⟨hsp, hlt, _⟩, _⟩ := hlp 0 _ (List.getElem?_eq_getElem hpos)
     refine ⟨a.block, a.off, ?_, by rw [hw]; exact hlt, hF _, fun i x hi => ?_⟩
     ·obtain ⟨b, o, sp⟩ := a
      simp only at hsp
      subst hsp
      rfl
     ·rw [hw]; exact (hlp i x hi).1.2.2
    ·simp only [tyOk]
     refine ⟨?_, fun x hx => ?_⟩
     ·show l.length ≤ _
      rw [hll]
      have : cap ≤ 9223372036854775807 := hm
      omega
     ·obtain ⟨i, hi⟩ := List.mem_iff_getElem?.1 hx
      exact (hlp i x hi).2.1
    ·simp only [tyB]
     refine ⟨?_, fun x hx => ?_⟩
     ·have := hm'.sl ((List.range len).map D) ((List.range (m - len)).map fun j => D (len + j))
      rw [List.length_map, List.length_range] at this
      show l.length ≤ _
      omega
     ·obtain ⟨i, hi⟩ := List.mem_iff_getElem?.1 hx
      have hil : i < len := by have := (List.getElem?_eq_some_iff.1 hi).1; omega
      exact tyB_mono (hm'.slE _ _ (D i) (List.mem_map.2 ⟨i, List.mem_range.2 hil, rfl⟩)) e x ((hlp i x hi).2.2 m' hm')
  ·rename_i ts gs hu
   obtain ⟨xs, n, rfl, rfl, hlen, hxl, hf⟩ := DataW.trod_struct hu hx
   obtain ⟨e, he, hok⟩ := open_fs (s := s) (cs := cs) (n := n) (fun t T cs x hc hx => open_ty hw hF d t T n cs x hc hx) gs.toList ts 0 h (fun f hfm => by
    obtain ⟨i, hi⟩ := List.mem_iff_getElem?.1 hfm
    rw [Array.getElem?_toList] at hi
    have h1 := hf i f hi
    have hlt : i < xs.length := by rw [hxl]; exact (Array.getElem?_eq_some_iff.1 hi).1
    rw [List.getElem?_eq_getElem hlt] at h1
    exact ⟨_, h1, fun m hm => hm.agg _ _ (List.mem_map.2 ⟨_, List.getElem_mem hlt, rfl⟩)⟩)
   refine ⟨e, ?_, by simp only [tyOk]; exact hok.1, fun m hm => by simp only [tyB]; exact hok.2 m hm⟩
   simp only [RT]
   simpa only [Nat.zero_add] using he
  ·rename_i ts n E hu
   rw [Bool.and_eq_true] at h
   obtain ⟨hn, h⟩ := h
   have hn := Nat.eq_of_beq_eq_true hn
   obtain ⟨xs, m, rfl, rfl, hlen, hxl, hf⟩ := DataW.trod_array hu hx
   obtain ⟨e, he, hok⟩ := open_ar (s := s) (cs := cs) (n := m) (E := E) (fun t cs x hc hx => open_ty hw hF d t E m cs x hc hx) ts 0 h (fun i hi => by
    have h1 := hf i (by omega)
    have hlt : i < xs.length := by omega
    rw [List.getElem?_eq_getElem hlt] at h1
    rw [Nat.zero_add]
    exact ⟨_, h1, fun m hm => hm.agg _ _ (List.mem_map.2 ⟨_, List.getElem_mem hlt, rfl⟩)⟩)
   refine ⟨e, ?_, by simp only [tyOk]; exact hok.1, fun m hm => by simp only [tyB]; exact hok.2 m hm⟩
   simp only [RT]
   simpa only [Nat.zero_mul, Nat.zero_add] using he
  ·cases h
theorem okWide_arr {P : Program} {w : World} {r : Reach} {base n : Nat} {T E : TypeId} {v : Value} (ht : P.underlying T = some (.array n E)) (h : Value.okWide P w r base T v) : ∃ cs, v = .agg cs ∧ cs.size = P.cellsOf T := by
 simp only [Value.okWide, ht] at h
 obtain ⟨cs, h1, h2, _⟩ := h
 exact ⟨cs, h1, h2⟩
theorem open_val {s : St} (hw : s.w = w) (hF : ∀ b, ¬ Own s b) {d : Nat} {t : Ty} {T : TypeId} {r : Reach} {b0 : Nat} {v : Value} {D : DataW H} {p : List MemPlace} (hc : chkG P d T t = true) (hv : Value.okWide P w r b0 T v) (h : DataW.Trod enc P w base spare held T v D p) : ∃ e : t.El, R s (avT t e) v ∧ tyO D t e := by
 obtain ⟨fuel, hx⟩ := h
 obtain ⟨e, he, hok⟩ := open_ty hw hF d t T fuel _ _ hc hx
 refine ⟨e, ?_, hok⟩
 cases d with
 | zero => simp [chkG] at hc
 | succ d =>
  simp only [chkG, Bool.and_eq_true] at hc
  obtain ⟨hz, hq, hc⟩ := hc
  split at hc
  ·rename_i hu
   obtain ⟨b, rfl, _⟩ := open_bool hu hv ⟨fuel, hx⟩
   simp only [RT, Value.cells] at he
   simp only [avT, R]
   simpa using he
  ·rename_i k k' hu
   have := of_decide_eq_true hc
   subst this
   obtain ⟨b, rfl, _⟩ := open_int hu hv ⟨fuel, hx⟩
   simp only [RT, Value.cells] at he
   simp only [avT, R]
   simpa using he
  ·rename_i hu
   obtain ⟨b, rfl⟩ := okWide_string hu hv
   simp only [RT, Value.cells] at he
   simp only [avT, R]
   simpa using he
  ·rename_i e' E hu
   obtain ⟨a, len, cap, rfl⟩ := okWide_slice hu hv
   simp only [RT, Value.cells] at he
   obtain ⟨a', cap', h0, hl, hr⟩ := he
   simp only [avT, R]
   refine ⟨a', cap', ?_, hl, hr⟩
   simpa using h0
  ·rename_i ts gs hu
   obtain ⟨cs, rfl, hsz⟩ := okWide_struct hu hv
   obtain ⟨_, _, _, _, hlen, _, _⟩ := DataW.trod_struct hu hx
   simp only [RT] at he
   have hrc := RTs_RC ts e _ he
   obtain ⟨vs, h1, h2, h3⟩ := RC_vals hrc
   have hts : cs.size = Ty.sizes ts := by
    have := Nat.eq_of_beq_eq_true hz
    rw [hsz, this]
    simp only [Ty.size]
   have hvs : vs.length = cs.size := by
    rw [RL_vals h1, hts]; exact flats_length ts e
   have : vs = cs.toList := by
    apply List.ext_getElem?
    intro j
    by_cases hj : j < vs.length
    ·have := h3 j _ (List.getElem?_eq_getElem hj)
     rw [List.getElem?_eq_getElem hj]
     exact this.symm
    ·rw [List.getElem?_eq_none (by omega), List.getElem?_eq_none (by simp; omega)]
   subst this
   simp only [avT, R]
   exact ⟨cs.toList, by simp, h1, h2⟩
  ·rename_i ts n E hu
   obtain ⟨cs, rfl, hsz⟩ := okWide_arr hu hv
   obtain ⟨_, _, _, _, hlen, _, _⟩ := DataW.trod_array hu hx
   simp only [RT] at he
   have hrc := RTs_RC ts e _ he
   obtain ⟨vs, h1, h2, h3⟩ := RC_vals hrc
   have hts : cs.size = Ty.sizes ts := by
    have := Nat.eq_of_beq_eq_true hz
    rw [hsz, this]
    simp only [Ty.size]
   have hvs : vs.length = cs.size := by
    rw [RL_vals h1, hts]; exact flats_length ts e
   have : vs = cs.toList := by
    apply List.ext_getElem?
    intro j
    by_cases hj : j < vs.length
    ·have := h3 j _ (List.getElem?_eq_getElem hj)
     rw [List.getElem?_eq_getElem hj]
     exact this.symm
    ·rw [List.getElem?_eq_none (by omega), List.getElem?_eq_none (by simp; omega)]
   subst this
   simp only [avT, R]
   exact ⟨cs.toList, by simp, h1, h2⟩
  ·cases hc
theorem open_all {s : St} (hw : s.w = w) (hF : ∀ b, ¬ Own s b) {r : Reach} {b0 : Nat} : ∀ (Ts : List TypeId) (ts : List Ty) (vs : List Value) (ds : List (DataW H)) (ps : List MemPlace), chkAll P Ts ts = true → (∀ (j : Nat) T v, Ts[j]? = some T → vs[j]? = some v → Value.okWide P w r b0 T v) →
  DataW.TrodAll enc P w base spare held Ts vs ds ps → ∃ es : Ty.Els ts, RL s (avTs ts es) vs ∧ tyOks ts es ∧ ∀ (m : DataW H → Nat) (N : Nat), Meas m → (∀ d ∈ ds, m d ≤ N) → tyBs N ts es
 | [], [], vs, ds, ps, _, _, h => by
  obtain ⟨rfl, rfl, rfl⟩ := trodAll_nil h
  exact ⟨(), by simp only [avTs, RL], by simp only [tyOks], fun m N hm hd => by simp only [tyBs]⟩
 | [], _ :: _, _, _, _, h, _, _ => by simp [chkAll] at h
 | _ :: _, [], _, _, _, h, _, _ => by simp [chkAll] at h
 | T :: Ts, t :: ts, vs, ds, ps, hc, hv, h => by
  simp only [chkAll, Bool.and_eq_true] at hc
  obtain ⟨v, vs', D, ds', p, q, rfl, rfl, rfl, h1, h2⟩ := trodAll_cons h
  obtain ⟨e, he, hok⟩ := open_val hw hF hc.1 (hv 0 T v rfl rfl) h1
  obtain ⟨es, hes, hoks, hbs⟩ := open_all hw hF Ts ts vs' ds' q hc.2 (fun j T v h1 h2 => hv (j + 1) T v (by simpa using h1) (by simpa using h2)) h2
  exact ⟨(e, es), by simp only [avTs, RL]; exact ⟨v, vs', rfl, he, hes⟩, by simp only [tyOks]; exact ⟨hok.1, hoks⟩, fun m N hm hd => by simp only [tyBs]; exact ⟨tyB_mono (hd D (by simp)) t e (hok.2 m hm), hbs m N hm (fun d h => hd d (by simp [h]))⟩⟩

end
end Av
namespace Go.Proofs.Ytkjoofinfhdcaaa
open Av Bk

def spSame : DSpec
 | [.lst (.st [.str, .str, .bool, .int .i64]) a, .lst (.st [.str, .str, .bool, .int .i64]) b] => some (a.length ≤ 4611686018427387904, .bool (sameL entT a b))
 | _ => none
set_option maxRecDepth 100000 in
theorem fnOk_ref03Same : FnOk Try.prog 23 Try.f23 := ⟨by rfl, by kernel_rfl, by
 show okCode _ _ = true ∧ drawsOk _ = true
 exact ⟨by kernel_rfl, by kernel_rfl⟩⟩
set_option maxRecDepth 100000 in
set_option maxHeartbeats 2000000 in
theorem ref03Same_ok : SpecOk Try.prog 23 spSame := by
 refine spec_body (C := cx0) mixed tbOk SpecsOk.nil (callN_ok (C := cx0) mixed tbOk SpecsOk.nil FnsOk.nil 0) fnOk_ref03Same ?_
 intro ys p r h hp
 unfold spSame at h
 split at h
 ·rename_i a b
  cases h
  conv => whnf
  repeat' first | ((first | refine auT ?_ | refine auF ?_ | with_reducible first | refine auKt ?_ | refine auKf ?_ | refine auNt ?_ | refine auNf ?_ | refine auEt ?_ | refine auEf ?_); conv => whnf) | ((with_reducible first | refine br_dec ?_ ?_ | refine br_ndec ?_ ?_ | refine br_ne ?_ ?_ | refine br_eq ?_ ?_) <;> intro h <;> first | (exfalso; omega) | conv => whnf) | (refine br_intro ?_ ?_ <;> intro h <;> conv => whnf) | ((first | refine auNd ?_ | refine idx_nat (by omega) (fun x hx => ?_) | refine frz_auto ?_ | refine draw_plain ?_ | refine auIx (fun x hx => ?_)); conv => whnf)
  ·refine congrArg AV.bool (same_len ?_).symm
   omega
  ·refine loop_inv [] [5] (fun vs h => ∃ i : Nat, vs = [.int .i64 (i : Int)] ∧ h = [] ∧ i ≤ a.length ∧ sameL entT a b = sameL entT (a.drop i) (b.drop i)) (fun vs _ => match vs with | [.int _ k] => a.length - k.toNat | _ => 0) ?_
   refine ⟨⟨0, rfl, rfl, Nat.zero_le _, rfl⟩, ?_⟩
   rintro vs h' - ⟨i, rfl, rfl, hi, hs⟩
   conv => whnf
   repeat' first | ((first | refine auT ?_ | refine auF ?_ | with_reducible first | refine auKt ?_ | refine auKf ?_ | refine auNt ?_ | refine auNf ?_ | refine auEt ?_ | refine auEf ?_); conv => whnf) | ((with_reducible first | refine br_dec ?_ ?_ | refine br_ndec ?_ ?_ | refine br_ne ?_ ?_ | refine br_eq ?_ ?_) <;> intro h <;> first | (exfalso; omega) | conv => whnf) | (refine br_intro ?_ ?_ <;> intro h <;> conv => whnf) | ((first | refine auNd ?_ | refine idx_nat (by omega) (fun x hx => ?_) | refine frz_auto ?_ | refine draw_plain ?_ | refine auIx (fun x hx => ?_)); conv => whnf)
   ·rename_i y hy
    rw [hs, same_step hy hx, show eqT entT y x = false from bnt h]
    rfl
   ·rename_i y hy
    rw [same_step hy hx, show eqT entT y x = true from bnf h] at hs
    refine back_intro (by conv => whnf) rfl ⟨i + 1, rfl, rfl, by omega, hs⟩ ?_
    show a.length - ((i : Int) + 1).toNat < a.length - (i : Int).toNat
    omega
   ·rw [hs, same_end (by omega) (by omega)]
 ·cases h

def spCL : DSpec
 | [.lst (.st [.str, .str, .bool, .int .i64]) l] => some (True, .tup [.int .i64 (clL l).1, .int .i64 (clL l).2])
 | _ => none
set_option maxRecDepth 100000 in
theorem fnOk_entsCL : FnOk Try.prog 32 Try.f32 := ⟨by rfl, by kernel_rfl, by
 show okCode _ _ = true ∧ drawsOk _ = true
 exact ⟨by kernel_rfl, by kernel_rfl⟩⟩
noncomputable def cx20 : Cx := ⟨tb, [], [(44, spCheck)]⟩
theorem specs20 : SpecsOk Try.prog cx20.specs := .cons entCheck_ok .nil
set_option maxRecDepth 100000 in
set_option maxHeartbeats 2000000 in
theorem entsCL_ok : SpecOk Try.prog 32 spCL := by
 refine spec_body (C := cx20) mixed tbOk specs20 (callN_ok (C := cx20) mixed tbOk specs20 FnsOk.nil 0) fnOk_entsCL ?_
 intro ys p r h hp
 unfold spCL at h
 split at h
 ·rename_i l
  cases h
  conv => whnf
  repeat' first | ((first | refine auT ?_ | refine auF ?_ | with_reducible first | refine auKt ?_ | refine auKf ?_ | refine auNt ?_ | refine auNf ?_ | refine auEt ?_ | refine auEf ?_); conv => whnf) | ((with_reducible first | refine br_dec ?_ ?_ | refine br_ndec ?_ ?_ | refine br_ne ?_ ?_ | refine br_eq ?_ ?_) <;> intro h <;> first | (exfalso; omega) | conv => whnf) | (refine br_intro ?_ ?_ <;> intro h <;> conv => whnf) | ((first | refine auNd ?_ | refine idx_nat (by omega) (fun x hx => ?_) | refine frz_auto ?_ | refine draw_plain ?_ | refine auIx (fun x hx => ?_)); conv => whnf)
  ·rw [clL, if_pos (by omega)]
  ·refine loop_inv [] [12] (fun vs h => ∃ i : Nat, vs = [.int .i64 (i : Int)] ∧ h = [] ∧ i ≤ l.length ∧ clL l = clGo (pvAt l i) (i : Int) (l.drop i)) (fun vs _ => match vs with | [.int _ k] => l.length - k.toNat | _ => 0) ?_
   refine ⟨⟨0, rfl, rfl, by omega, by rw [clL, if_neg (by omega)]; rfl⟩, ?_⟩
   rintro vs h' - ⟨i, rfl, rfl, hi, hc⟩
   conv => whnf
   repeat' first | ((first | refine auT ?_ | refine auF ?_ | with_reducible first | refine auKt ?_ | refine auKf ?_ | refine auNt ?_ | refine auNf ?_ | refine auEt ?_ | refine auEf ?_); conv => whnf) | ((with_reducible first | refine br_dec ?_ ?_ | refine br_ndec ?_ ?_ | refine br_ne ?_ ?_ | refine br_eq ?_ ?_) <;> intro h <;> first | (exfalso; omega) | conv => whnf) | (refine br_intro ?_ ?_ <;> intro h <;> conv => whnf) | ((first | refine auNd ?_ | refine idx_nat (by omega) (fun x hx => ?_) | refine frz_auto ?_ | refine draw_plain ?_ | refine auIx (fun x hx => ?_)); conv => whnf)
   ·rw [clL_err hc hx h]; rfl
   ·rename_i y hy _ _
    rw [show ((i : Int) - 1).toNat = i - 1 by omega] at hx
    rw [clL_form hc hy (by assumption) (by omega) hx (bnt h)]
   ·rename_i y hy _ _
    rw [show ((i : Int) - 1).toNat = i - 1 by omega] at hx
    refine back_intro (by conv => whnf) rfl ⟨i + 1, rfl, rfl, by omega, clL_next hc hy (by assumption) (.inr ⟨x, hx, bnf h⟩)⟩ ?_
    show l.length - ((i : Int) + 1).toNat < l.length - (i : Int).toNat
    omega
   ·refine back_intro (by conv => whnf) rfl ⟨i + 1, rfl, rfl, by omega, clL_next hc hx (by assumption) (.inl (by omega))⟩ ?_
    show l.length - ((i : Int) + 1).toNat < l.length - (i : Int).toNat
    omega
   ·rw [clL_end (by omega) hc (by omega)]
 ·cases h
theorem clL_len {l : List entT.El} (h : (clL l).2 = 0) : l.length ≤ 5000 := by
 unfold clL at h
 split at h
 ·cases h
 ·omega
end Go.Proofs.Ytkjoofinfhdcaaa
namespace Go.Proofs.Ytkjoofinfhdcaaa
open Av Bk

set_option maxRecDepth 100000 in
theorem fnOk_clone : FnOk Try.prog 33 Try.f33 := ⟨by rfl, by kernel_rfl, by
 show okCode _ _ = true ∧ drawsOk _ = true
 exact ⟨by kernel_rfl, by kernel_rfl⟩⟩
def spClone : DSpec
 | [.lst (.st [.str, .str, .bool, .int .i64]) l] => some (0 < l.length ∧ l.length ≤ 100000, .lst entT l)
 | _ => none
set_option maxRecDepth 100000 in
set_option maxHeartbeats 2000000 in
theorem clone_ok : SpecOk Try.prog 33 spClone := by
 refine spec_body (C := cx0) mixed tbOk SpecsOk.nil (callN_ok (C := cx0) mixed tbOk SpecsOk.nil FnsOk.nil 0) fnOk_clone ?_
 intro ys p r h hp
 unfold spClone at h
 split at h
 ·rename_i l
  cases h
  obtain ⟨h0, h1⟩ := hp
  conv => whnf
  repeat' first | ((first | refine auT ?_ | refine auF ?_ | with_reducible first | refine auKt ?_ | refine auKf ?_ | refine auNt ?_ | refine auNf ?_ | refine auEt ?_ | refine auEf ?_); conv => whnf) | ((with_reducible first | refine br_dec ?_ ?_ | refine br_ndec ?_ ?_ | refine br_ne ?_ ?_ | refine br_eq ?_ ?_) <;> intro h <;> first | (exfalso; omega) | conv => whnf) | (refine br_intro ?_ ?_ <;> intro h <;> conv => whnf) | ((first | refine auNd ?_ | refine idx_nat (by omega) (fun x hx => ?_) | refine frz_auto ?_ | refine draw_plain ?_ | refine auIx (fun x hx => ?_)); conv => whnf)
  simp only [cast_self, Nat.zero_add, List.take_zero, List.nil_append, List.take_length]
 ·cases h
def ofR (id : Int) (l : List entT.El) : Int × List entT.El × Int := if id < 1 ∨ 1000000 < id then (0, [], 7) else if (clL l).2 ≠ 0 then (0, [], (clL l).2) else if l.length = 0 then (0, [], 4) else (id, l, 0)
def spOf : DSpec
 | [.int .i64 id, .lst (.st [.str, .str, .bool, .int .i64]) l] => some (True, .tup [.agg [.int .i64 (ofR id l).1, .lst entT (ofR id l).2.1], .int .i64 (ofR id l).2.2])
 | _ => none
theorem of_eq {a c : Int} {b : List entT.El} {p : Int × List entT.El × Int} (h : p = (a, b, c)) : AV.tup [.agg [.int .i64 a, .lst entT b], .int .i64 c] = AV.tup [.agg [.int .i64 p.1, .lst entT p.2.1], .int .i64 p.2.2] := by rw [h]
set_option maxRecDepth 100000 in
theorem fnOk_bOf : FnOk Try.prog 11 Try.f11 := ⟨by rfl, by kernel_rfl, by
 show okCode _ _ = true ∧ drawsOk _ = true
 exact ⟨by kernel_rfl, by kernel_rfl⟩⟩
noncomputable def cx22 : Cx := ⟨tb, [], [(32, spCL), (33, spClone)]⟩
theorem specs22 : SpecsOk Try.prog cx22.specs := .cons entsCL_ok (.cons clone_ok .nil)
set_option maxRecDepth 100000 in
set_option maxHeartbeats 2000000 in
theorem bOf_ok : SpecOk Try.prog 11 spOf := by
 refine spec_body (C := cx22) mixed tbOk specs22 (callN_ok (C := cx22) mixed tbOk specs22 FnsOk.nil 0) fnOk_bOf ?_
 intro ys p r h hp
 unfold spOf at h
 split at h
 ·rename_i id l
  cases h
  conv => whnf
  repeat' first | ((first | refine auT ?_ | refine auF ?_ | with_reducible first | refine auKt ?_ | refine auKf ?_ | refine auNt ?_ | refine auNf ?_ | refine auEt ?_ | refine auEf ?_); conv => whnf) | ((with_reducible first | refine br_dec ?_ ?_ | refine br_ndec ?_ ?_ | refine br_ne ?_ ?_ | refine br_eq ?_ ?_) <;> intro h <;> first | (exfalso; omega) | conv => whnf) | (refine br_intro ?_ ?_ <;> intro h <;> conv => whnf) | ((first | refine auNd ?_ | refine idx_nat (by omega) (fun x hx => ?_) | refine frz_auto ?_ | refine draw_plain ?_ | refine auIx (fun x hx => ?_)); conv => whnf)
  all_goals first
   | (refine of_eq ?_; grind [ofR])
   | skip
  have hl := clL_len ‹_›
  refine need_in ⟨by omega, by omega⟩ ?_
  conv => whnf
  refine of_eq ?_
  grind [ofR]
 ·cases h
set_option maxRecDepth 100000 in
theorem fnOk_r6Same : FnOk Try.prog 13 Try.f13 := ⟨by rfl, by kernel_rfl, by
 show okCode _ _ = true ∧ drawsOk _ = true
 exact ⟨by kernel_rfl, by kernel_rfl⟩⟩
def spRSame : DSpec
 | [.agg [.int .i64 i, .lst (.st [.str, .str, .bool, .int .i64]) a], .agg [.int .i64 j, .lst (.st [.str, .str, .bool, .int .i64]) b]] => some (a.length ≤ 4611686018427387904, .bool (i == j && sameL entT a b))
 | _ => none
noncomputable def cx24 : Cx := ⟨tb, [], [(23, spSame)]⟩
theorem specs24 : SpecsOk Try.prog cx24.specs := .cons ref03Same_ok .nil
set_option maxRecDepth 100000 in
set_option maxHeartbeats 2000000 in
theorem r6Same_ok : SpecOk Try.prog 13 spRSame := by
 refine spec_body (C := cx24) mixed tbOk specs24 (callN_ok (C := cx24) mixed tbOk specs24 FnsOk.nil 0) fnOk_r6Same ?_
 intro ys p r h hp
 unfold spRSame at h
 split at h
 ·rename_i i a j b
  cases h
  conv => whnf
  repeat' first | ((first | refine auT ?_ | refine auF ?_ | with_reducible first | refine auKt ?_ | refine auKf ?_ | refine auNt ?_ | refine auNf ?_ | refine auEt ?_ | refine auEf ?_); conv => whnf) | ((with_reducible first | refine br_dec ?_ ?_ | refine br_ndec ?_ ?_ | refine br_ne ?_ ?_ | refine br_eq ?_ ?_) <;> intro h <;> first | (exfalso; omega) | conv => whnf) | (refine br_intro ?_ ?_ <;> intro h <;> conv => whnf) | ((first | refine auNd ?_ | refine idx_nat (by omega) (fun x hx => ?_) | refine frz_auto ?_ | refine draw_plain ?_ | refine auIx (fun x hx => ?_)); conv => whnf)
  all_goals simp [*]
 ·cases h
end Go.Proofs.Ytkjoofinfhdcaaa
namespace Go.Proofs.Ytkjoofinfhdcaaa
open Av Bk

set_option maxRecDepth 100000 in
theorem fnOk_awake : FnOk Try.prog 10 Try.f10 := ⟨by rfl, by kernel_rfl, by
 show okCode _ _ = true ∧ drawsOk _ = true
 exact ⟨by kernel_rfl, by kernel_rfl⟩⟩
set_option maxRecDepth 100000 in
theorem fnOk_lawA : FnOk Try.prog 14 Try.f14 := ⟨by rfl, by kernel_rfl, by
 show okCode _ _ = true ∧ drawsOk _ = true
 exact ⟨by kernel_rfl, by kernel_rfl⟩⟩
set_option maxRecDepth 100000 in
theorem fnOk_lawC : FnOk Try.prog 15 Try.f15 := ⟨by rfl, by kernel_rfl, by
 show okCode _ _ = true ∧ drawsOk _ = true
 exact ⟨by kernel_rfl, by kernel_rfl⟩⟩
set_option maxRecDepth 100000 in
theorem fnOk_bNew : FnOk Try.prog 16 Try.f16 := ⟨by rfl, by kernel_rfl, by
 show okCode _ _ = true ∧ drawsOk _ = true
 exact ⟨by kernel_rfl, by kernel_rfl⟩⟩
set_option maxRecDepth 100000 in
theorem fnOk_bLast : FnOk Try.prog 17 Try.f17 := ⟨by rfl, by kernel_rfl, by
 show okCode _ _ = true ∧ drawsOk _ = true
 exact ⟨by kernel_rfl, by kernel_rfl⟩⟩
set_option maxRecDepth 100000 in
theorem fnOk_bAdd : FnOk Try.prog 18 Try.f18 := ⟨by rfl, by kernel_rfl, by
 show okCode _ _ = true ∧ drawsOk _ = true
 exact ⟨by kernel_rfl, by kernel_rfl⟩⟩
set_option maxRecDepth 100000 in
theorem fnOk_bSeal : FnOk Try.prog 19 Try.f19 := ⟨by rfl, by kernel_rfl, by
 show okCode _ _ = true ∧ drawsOk _ = true
 exact ⟨by kernel_rfl, by kernel_rfl⟩⟩
set_option maxRecDepth 100000 in
theorem fnOk_bRoom : FnOk Try.prog 20 Try.f20 := ⟨by rfl, by kernel_rfl, by
 show okCode _ _ = true ∧ drawsOk _ = true
 exact ⟨by kernel_rfl, by kernel_rfl⟩⟩
set_option maxRecDepth 100000 in
theorem fnOk_bLen : FnOk Try.prog 21 Try.f21 := ⟨by rfl, by kernel_rfl, by
 show okCode _ _ = true ∧ drawsOk _ = true
 exact ⟨by kernel_rfl, by kernel_rfl⟩⟩
set_option maxRecDepth 100000 in
theorem fnOk_bIs : FnOk Try.prog 35 Try.f35 := ⟨by rfl, by kernel_rfl, by
 show okCode _ _ = true ∧ drawsOk _ = true
 exact ⟨by kernel_rfl, by kernel_rfl⟩⟩
set_option maxRecDepth 100000 in
theorem fnOk_bFits : FnOk Try.prog 36 Try.f36 := ⟨by rfl, by kernel_rfl, by
 show okCode _ _ = true ∧ drawsOk _ = true
 exact ⟨by kernel_rfl, by kernel_rfl⟩⟩
set_option maxRecDepth 100000 in
theorem fnOk_bCount : FnOk Try.prog 37 Try.f37 := ⟨by rfl, by kernel_rfl, by
 show okCode _ _ = true ∧ drawsOk _ = true
 exact ⟨by kernel_rfl, by kernel_rfl⟩⟩
def spA : DSpec
 | [] => some (True, .agg [.str ⟨#[97]⟩, .str ⟨#[49]⟩, .bool false, .int .i64 5])
 | _ => none
def spC : DSpec
 | [] => some (True, .agg [.str ⟨#[98]⟩, .str ⟨#[50]⟩, .bool false, .int .i64 6])
 | _ => none
theorem lawA_ok : SpecOk Try.prog 14 spA := by
 refine spec_body (C := cx0) mixed tbOk SpecsOk.nil (callN_ok (C := cx0) mixed tbOk SpecsOk.nil FnsOk.nil 0) fnOk_lawA ?_
 intro ys p r h hp
 unfold spA at h
 split at h
 ·cases h
  conv => whnf
  repeat' first | (refine br_true (by first | with_reducible exact rfl | decide | rfl) ?_; conv => whnf) | (refine br_false (by first | with_reducible exact rfl | decide | rfl) ?_; conv => whnf) | (refine need_in (by first | exact trivial | exact ⟨rfl, Nat.le_refl _⟩ | decide | (simp only [inR]; omega) | omega) ?_; conv => whnf) | (refine frz_auto ?_; conv => whnf) | (refine draw_plain ?_; conv => whnf) | (refine idx_cl ?_; (conv => whnf); refine ⟨by decide, ?_⟩; conv => whnf) | fail
 ·cases h
theorem lawC_ok : SpecOk Try.prog 15 spC := by
 refine spec_body (C := cx0) mixed tbOk SpecsOk.nil (callN_ok (C := cx0) mixed tbOk SpecsOk.nil FnsOk.nil 0) fnOk_lawC ?_
 intro ys p r h hp
 unfold spC at h
 split at h
 ·cases h
  conv => whnf
  repeat' first | (refine br_true (by first | with_reducible exact rfl | decide | rfl) ?_; conv => whnf) | (refine br_false (by first | with_reducible exact rfl | decide | rfl) ?_; conv => whnf) | (refine need_in (by first | exact trivial | exact ⟨rfl, Nat.le_refl _⟩ | decide | (simp only [inR]; omega) | omega) ?_; conv => whnf) | (refine frz_auto ?_; conv => whnf) | (refine draw_plain ?_; conv => whnf) | (refine idx_cl ?_; (conv => whnf); refine ⟨by decide, ?_⟩; conv => whnf) | fail
 ·cases h
noncomputable def cxB : Cx := ⟨tb, [(16, Try.f16), (17, Try.f17), (18, Try.f18), (19, Try.f19), (20, Try.f20), (21, Try.f21), (35, Try.f35), (36, Try.f36), (37, Try.f37)],
 [(14, spA), (15, spC), (44, spCheck), (11, nz [none, some (.st [.str, .str, .bool, .int .i64])] spOf), (13, spRSame)]⟩
theorem specsB : SpecsOk Try.prog cxB.specs := .cons lawA_ok (.cons lawC_ok (.cons entCheck_ok (.cons (bOf_ok.nz _) (.cons r6Same_ok .nil))))
theorem fnsB : FnsOk Try.prog cxB.fns := .cons fnOk_bNew (.cons fnOk_bLast (.cons fnOk_bAdd (.cons fnOk_bSeal (.cons fnOk_bRoom (.cons fnOk_bLen (.cons fnOk_bIs (.cons fnOk_bFits (.cons fnOk_bCount .nil))))))))
def spAwake : DSpec
 | [] => some (True, .bool true)
 | _ => none
set_option maxRecDepth 100000 in
set_option maxHeartbeats 4000000 in
theorem awake_ok : SpecOk Try.prog 10 spAwake := by
 refine spec_body (C := cxB) mixed tbOk specsB (callN_ok (C := cxB) mixed tbOk specsB fnsB 4) fnOk_awake ?_
 intro ys p r h hp
 unfold spAwake at h
 split at h
 ·cases h
  conv => whnf
  repeat' first | (refine br_true (by first | with_reducible exact rfl | decide | rfl) ?_; conv => whnf) | (refine br_false (by first | with_reducible exact rfl | decide | rfl) ?_; conv => whnf) | (refine need_in (by first | exact trivial | exact ⟨rfl, Nat.le_refl _⟩ | decide | (simp only [inR]; omega) | omega) ?_; conv => whnf) | (refine frz_auto ?_; conv => whnf) | (refine draw_plain ?_; conv => whnf) | (refine idx_cl ?_; (conv => whnf); refine ⟨by decide, ?_⟩; conv => whnf) | fail
  rfl
 ·cases h
end Go.Proofs.Ytkjoofinfhdcaaa
namespace Go.Proofs.Ytkjoofinfhdcaaa
open Av Bk

set_option maxRecDepth 100000 in
theorem fnOk_bFork : FnOk Try.prog 27 Try.f27 := ⟨by rfl, by kernel_rfl, by
 show okCode _ _ = true ∧ drawsOk _ = true
 exact ⟨by kernel_rfl, by kernel_rfl⟩⟩
end Go.Proofs.Ytkjoofinfhdcaaa
namespace Go.Proofs.Ytkjoofinfhdcaaa
open Av Bk

theorem cl8_ok : ∀ (l : List entT.El) (i : Int) (pv : Option ByteArray), (∀ x ∈ l, errX x = 0) → (∀ (k : Nat) (x y : entT.El), l[k]? = some x → l[k + 1]? = some y → sLt x.1 y.1 = true) → (∀ x, l[0]? = some x → falls pv x = false) → clGo pv i l = (0, 0)
 | [], _, _, _, _, _ => rfl
 | x :: l, i, pv, h1, h2, h3 => by
  rw [clGo, if_neg (by rw [h1 x (by simp)]; simp), if_neg (by rw [h3 x rfl]; simp)]
  refine cl8_ok l _ _ (fun y hy => h1 y (by simp [hy])) (fun k y z hy hz => h2 (k + 1) y z hy hz) (fun y hy => ?_)
  have := h2 0 x y rfl hy
  simp only [falls]
  simp [this]
def okL8 (W : List entT.El) : Prop := (∀ x ∈ W, errX x = 0) ∧ ∀ (k : Nat) (x y : entT.El), W[k]? = some x → W[k + 1]? = some y → sLt x.1 y.1 = true
theorem okL8_nil : okL8 [] := ⟨by simp, fun k x y h => by simp at h⟩
def okAft (W : List entT.El) (k : ByteArray) : Bool := match W[W.length - 1]? with | some y => sLt y.1 k | none => true
theorem okL8_snoc {W : List entT.El} {x : entT.El} (h : okL8 W) (hx : errX x = 0) (hl : okAft W x.1 = true) : okL8 (W ++ [x]) := by
 refine ⟨fun y hy => ?_, fun k y z hy hz => ?_⟩
 ·rcases List.mem_append.1 hy with h1 | h1
  ·exact h.1 y h1
  ·rw [List.mem_singleton] at h1; subst h1; exact hx
 ·have hk := (List.getElem?_eq_some_iff.1 hz).1
  rw [List.length_append, List.length_singleton] at hk
  rw [List.getElem?_append_left (by omega)] at hy
  by_cases h2 : k + 1 < W.length
  ·rw [List.getElem?_append_left h2] at hz
   exact h.2 k y z hy hz
  ·have h3 : W.length = k + 1 := by omega
   rw [List.getElem?_append_right (by omega), h3, Nat.sub_self] at hz
   cases hz
   unfold okAft at hl
   rw [h3, Nat.add_sub_cancel, hy] at hl
   exact hl
theorem okL8_cl {W : List entT.El} (h : okL8 W) (hl : W.length ≤ 5000) : clL W = (0, 0) := by
 rw [clL, if_neg (by omega)]
 exact cl8_ok _ _ _ h.1 h.2 (fun x _ => rfl)
theorem eqE_refl (x : entT.El) : eqT entT (x.1, x.2.1, x.2.2.1, x.2.2.2.1, ()) (x.1, x.2.1, x.2.2.1, x.2.2.2.1, ()) = true := by
 show (sEq x.1 x.1 && (sEq x.2.1 x.2.1 && ((x.2.2.1 == x.2.2.1) && (x.2.2.2.1 == x.2.2.2.1)))) = true
 rw [sEq_refl, sEq_refl, beq_self_eq_true, beq_self_eq_true]
 rfl
end Go.Proofs.Ytkjoofinfhdcaaa
