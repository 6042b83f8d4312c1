/-
  An abstract reading of values and memory: helps for those who reckon.
-/
import Derived.Test.YtjlfkgffgnkflaaAvp
namespace Av
open Go

theorem br_dec {p : Prop} [Decidable p] {x y : Prop} (h1 : p → x) (h2 : ¬ p → y) : br (decide p) x y :=
  br_intro (fun h => h1 (of_decide_eq_true h)) (fun h => h2 (of_decide_eq_false h))
theorem br_ndec {p : Prop} [Decidable p] {x y : Prop} (h1 : ¬ p → x) (h2 : p → y) : br (!decide p) x y :=
  br_intro (fun h => h1 (by simpa using h)) (fun h => h2 (by simpa using h))
theorem br_ne {a b : Int} {x y : Prop} (h1 : a ≠ b → x) (h2 : a = b → y) : br (a != b) x y :=
  br_intro (fun h => h1 (by simpa using h)) (fun h => h2 (by simpa using h))
theorem br_eq {a b : Int} {x y : Prop} (h1 : a = b → x) (h2 : a ≠ b → y) : br (a == b) x y :=
  br_intro (fun h => h1 (by simpa using h)) (fun h => h2 (by simpa using h))
theorem br_kt {p : Prop} {i : Decidable p} {x y : Prop} (hp : p) (h : x) : br (@decide p i) x y := .t (decide_eq_true hp) h
theorem br_kf {p : Prop} {i : Decidable p} {x y : Prop} (hp : ¬ p) (h : y) : br (@decide p i) x y := .f (decide_eq_false hp) h
theorem br_nt {a b : Int} {x y : Prop} (hp : a ≠ b) (h : x) : br (a != b) x y := .t (by simpa using hp) h
theorem br_nf {a b : Int} {x y : Prop} (hp : a = b) (h : y) : br (a != b) x y := .f (by simpa using hp) h
theorem br_et {a b : Int} {x y : Prop} (hp : a = b) (h : x) : br (a == b) x y := .t (by simpa using hp) h
theorem br_ef {a b : Int} {x y : Prop} (hp : a ≠ b) (h : y) : br (a == b) x y := .f (by simpa using hp) h
theorem need_in {p : Prop} {i : Decidable p} {x : Prop} (hp : p) (h : x) : @need p i x := @need.mk p i x hp h
theorem idx_nat {α : Type} {l : List α} {i : Nat} {k : α → Prop} (h1 : i < l.length) (h : ∀ x, l[i]? = some x → k x) : idx l (i : Int) k :=
  idx_intro (by omega) (by omega) (fun x hx => h x (by simpa using hx))
theorem idx_kn {α : Type} {l : List α} {i : Nat} {y : α} {k : α → Prop} (hy : l[i]? = some y) (h : k y) : idx l (i : Int) k :=
  .mk y (by omega) (by simpa using hy) h
theorem idx_ki {α : Type} {l : List α} {i : Int} {y : α} {k : α → Prop} (hy : l[i.toNat]? = some y) (h0 : 0 ≤ i) (h : k y) : idx l i k :=
  .mk y h0 hy h
theorem idx_cl {α : Type} {l : List α} {i : Int} {k : α → Prop} (h : match l[i.toNat]? with | some x => (0 ≤ i ∧ i < l.length) ∧ k x | none => False) : idx l i k := by
  split at h
  · rename_i x hx
    exact idx_intro h.1.1 h.1.2 (fun y hy => by rw [hx] at hy; cases hy; exact h.2)
  · exact h.elim
theorem loop_inv {ms : List Nat} {body : (Tr → Hp → Prop) → Tr → Hp → Prop} {f : Tr} {h : Hp} (nz : List NZ) (cs : List Nat) (J : List AV → Hp → Prop) (μ : List AV → Hp → Nat) (hh : normK nz f h fun f h => J (cs.map f.get) h ∧
    ∀ vs h', vs.length = cs.length → J vs h' →
      eraseK f ms fun f0 => setsK f0 cs vs fun f1 => body (fun f2 h2 => backP ms cs f0 h.length J μ (μ vs h') f2 h2) f1 h') : loopP ms body f h :=
  .mk (.inr ⟨nz, cs, J, μ, hh⟩)
theorem back_intro {ms cs : List Nat} {f0 : Tr} {L : Nat} {J : List AV → Hp → Prop} {μ : List AV → Hp → Nat} {m : Nat} {f2 : Tr} {h2 : Hp} (h1 : eraseK f2 ms fun f => f = f0) (h3 : cutOk L (cs.map fun c => viewB L h2 (f2.get c)) h2 = true) (hJ : J (cs.map fun c => viewB L h2 (f2.get c)) (h2.take L)) (hm : μ (cs.map fun c => viewB L h2 (f2.get c)) (h2.take L) < m) : backP ms cs f0 L J μ m f2 h2 :=
  .mk ⟨by rw [erase_eq] at h1; exact h1, h3, hJ, hm⟩
theorem frz_auto {xs : List AV} {P : Tr → Hp → Prop} {f : Tr} {h : Hp} (hh : normK (autoNZ xs f h) f h P) : frzP xs P f h := .mk _ hh
theorem draw_plain {P : Tr → Hp → Prop} {f : Tr} {h : Hp} (hh : P f h) : drawP P f h := .mk [] hh
theorem loop_turns {ms : List Nat} {body : (Tr → Hp → Prop) → Tr → Hp → Prop} {f : Tr} {h : Hp} (n : Nat) (hh : turns n body f h) : loopP ms body f h := .mk (.inl ⟨n, hh⟩)
section
variable {P : Program}
theorem SpecsOk.nil : SpecsOk P [] := fun g sp h => by cases h
theorem SpecsOk.consF {g : FuncId} {sp : FSpec} {l : List (FuncId × Spec)} (h : FreshOk P g sp) (hl : SpecsOk P l) : SpecsOk P ((g, .f sp) :: l) := by
  intro g' sp' h'
  simp only [lks] at h'
  cases hb : Nat.beq g g' with
  | true =>
    rw [hb] at h'
    have := Nat.eq_of_beq_eq_true hb
    cases h'
    exact this ▸ h
  | false =>
    rw [hb] at h'
    exact hl g' sp' h'
theorem SpecsOk.cons {g : FuncId} {sp : DSpec} {l : List (FuncId × Spec)} (h : SpecOk P g sp) (hl : SpecsOk P l) : SpecsOk P ((g, .d sp) :: l) := by
  intro g' sp' h'
  simp only [lks] at h'
  cases hb : Nat.beq g g' with
  | true =>
    rw [hb] at h'
    have := Nat.eq_of_beq_eq_true hb
    cases h'
    exact this ▸ h
  | false =>
    rw [hb] at h'
    exact hl g' sp' h'
/-- A nil slice reads as an empty list. -/
def nzV : Option Ty → AV → AV
  | some t, .nsl => .lst t []
  | _, v => v
def nzL : List (Option Ty) → List AV → List AV
  | t :: ts, v :: vs => nzV t v :: nzL ts vs
  | _, vs => vs
theorem nzV_R {s : St} {t : Option Ty} {v : AV} {c : Value} (h : R s v c) : R s (nzV t v) c := by
  unfold nzV
  split
  · simp only [R] at h ⊢
    subst h
    exact ⟨none, 0, rfl, by simp, fun h => absurd rfl h⟩
  · exact h
theorem nzL_RL {s : St} : ∀ (ts : List (Option Ty)) (vs : List AV) (cs : List Value), RL s vs cs → RL s (nzL ts vs) cs
  | [], vs, cs, h => by simpa only [nzL] using h
  | t :: ts, [], cs, h => by simpa only [nzL] using h
  | t :: ts, v :: vs, cs, h => by
    simp only [nzL, RL] at h ⊢
    obtain ⟨c, cs', rfl, h1, h2⟩ := h
    exact ⟨c, cs', rfl, nzV_R h1, nzL_RL ts vs cs' h2⟩
def nz (ts : List (Option Ty)) (sp : DSpec) : DSpec := fun ys => sp (nzL ts ys)
theorem SpecOk.nz {g : FuncId} {sp : DSpec} (h : SpecOk P g sp) (ts : List (Option Ty)) : SpecOk P g (nz ts sp) :=
  ⟨h.1, fun ys p r hsp hp s hok hh cs hr => h.2 (nzL ts ys) p r hsp hp s hok hh cs (nzL_RL ts ys cs hr)⟩
/-- What is returned, with nil slices read as empty lists. -/
def nzT (ts : List (Option Ty)) : AV → AV
  | .tup vs => .tup (nzL ts vs)
  | v => nzV (ts.head?.getD none) v
theorem nzT_R {s : St} {ts : List (Option Ty)} {v : AV} {c : Value} (h : R s v c) : R s (nzT ts v) c := by
  unfold nzT
  split
  · simp only [R] at h ⊢
    obtain ⟨vs, rfl, h⟩ := h
    exact ⟨vs, rfl, nzL_RL _ _ _ h⟩
  · exact nzV_R h
theorem SpecOk.rz {g : FuncId} {sp sp' : DSpec} (h : SpecOk P g sp) (hr : ∀ ys p r', sp' ys = some (p, r') → p → ∃ p' r ts, sp ys = some (p', r) ∧ p' ∧ r' = nzT ts r) : SpecOk P g sp' := by
  refine ⟨h.1, fun ys p r' hsp hp s hok hh cs hv => ?_⟩
  obtain ⟨p', r, ts, h1, h2, rfl⟩ := hr ys p r' hsp hp
  refine Calls.mono (h.2 ys p' r h1 h2 s hok hh cs hv) ?_
  rintro e w' ⟨s', cr, e1, e2, e3, e4, e5, e6⟩
  exact ⟨s', cr, e1, e2, e3, e4, e5, nzT_R e6⟩
end
end Av
