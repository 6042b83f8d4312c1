/-
  An abstract reading of values and memory: append and copy.
-/
import Derived.Test.YtkjoofinfhdcaaaAve
import Derived.Laws.Append
namespace Av
open Go
section
variable {P : Program} {tb : Tb}

theorem src_lst {s : St} {t : Ty} {l : List t.El} {v : Value} (h : RLst s t l v) : ∃ ad c, v = .slice ad l.length c ∧ l.length ≤ c ∧ (l ≠ [] → ∃ b o, ad = some ⟨b, o, none⟩ ∧ RC s (rowsA t l) (fun j => s.w.cell? ⟨b, o + j, none⟩)) := by
 obtain ⟨ad, c, rfl, hc, hm⟩ := h
 refine ⟨ad, c, rfl, hc, fun hne => ?_⟩
 obtain ⟨b, o, rfl, _, _, hr⟩ := hm hne
 refine ⟨b, o, rfl, rows_RC (fun i x hi => ?_)⟩
 have := hr i x hi
 simp only [Nat.add_assoc] at this ⊢
 exact this
def Src' (s : St) (t : Ty) (m : List t.El) (v : Value) : Prop :=
 ∃ ad c, v = .slice ad m.length c ∧ (m ≠ [] → ∃ b o, ad = some ⟨b, o, none⟩ ∧ RC s (rowsA t m) (fun j => s.w.cell? ⟨b, o + j, none⟩))
theorem own_RC {s : St} (hok : Ok s) {id : Nat} {T : TypeId} {t : Ty} {l : List t.El} {f : Bool} {g : Nat} (h : s.h[id]? = some (.arr T t l f g)) {base : Option Addr} {len cap : Nat} (hσ : s.σ id = .slice base len cap) :
  len = l.length ∧ l.length ≤ cap ∧ (l ≠ [] → ∃ b, base = some ⟨b, 0, none⟩ ∧ RC s (rowsA t l) (fun j => s.w.cell? ⟨b, j, none⟩)) := by
 obtain ⟨xs, hown, h1, hr, _⟩ := hok.obj id _ h
 have hRL := rows_RL hown.1 hr
 rw [hσ] at hown
 rcases hown.2 with ⟨he, hz⟩ | ⟨b, cap', cur, he, _, hg, hnc, _, hcs, htake⟩
 ·cases he
  exact ⟨hz.symm, by omega, fun hne => absurd (List.eq_nil_of_length_eq_zero hz) hne⟩
 ·cases he
  refine ⟨rfl, hnc, fun _ => ⟨b, rfl, RC_of_RL hRL h1 (fun j v hv => ?_)⟩⟩
  have := hown.cells (g := b) rfl j v hv
  rw [Addr.add_mid, Nat.zero_add] at this
  exact this
theorem RC_take {s : St} {cs : List AV} {c : Nat → Option Value} (n : Nat) (h : RC s cs c) : RC s (cs.take n) c := by
 rcases Nat.lt_or_ge n cs.length with hn | hn
 ·exact (RC_take_drop cs n c (Nat.le_of_lt hn) h).1
 ·rw [List.take_of_length_le hn]; exact h
theorem src_ok {s : St} (hok : Ok s) {t : Ty} {x : AV} {cx : Value} (hx : R s x cx) {h0 : Hp} (hs : SubH h0 s.h) {K : List t.El → Res} {v : AV} {ob : Option AObj} (h : (srcOf h0 t x K).Is v ob) : ∃ m, (K m).Is v ob ∧ Src' s t m cx := by
 unfold srcOf at h
 have hx := R_detos hx
 generalize detos x = x at h hx
 split at h
 ·simp only [R] at hx
  exact ⟨[], h, none, 0, hx, fun hne => absurd rfl hne⟩
 ·split at h
  ·rename_i l hc
   obtain ⟨he, hl⟩ := castL_eq hc
   subst he
   subst hl
   simp only [R] at hx
   obtain ⟨ad, c, h1, _, h2⟩ := src_lst hx
   exact ⟨_, h, ad, c, h1, h2⟩
  ·exact h.elim
 ·split at h
  ·rename_i l hc
   obtain ⟨he, hl⟩ := castL_eq hc
   subst he
   subst hl
   simp only [R] at hx
   obtain ⟨ad, c, h1, _, h2⟩ := src_lst hx.1
   exact ⟨_, h, ad, c, h1, h2⟩
  ·exact h.elim
 ·rename_i id g n
  split at h
  ·rename_i E t' l0 f g' ho0
   have ho := hs id _ ho0 rfl
   split at h
   ·rename_i l hc
    obtain ⟨he, hl⟩ := castL_eq hc
    subst he
    subst hl
    obtain ⟨⟨rfl, hn⟩, hk⟩ := h
    simp only [R] at hx
    obtain ⟨_, base, cap, rfl, hx3⟩ := hx
    obtain ⟨_, hx2⟩ := hx3 E t' l0 f g' ho
    obtain ⟨_, len, hσ⟩ := hx2 rfl
    obtain ⟨_, hcap, hrc⟩ := own_RC hok ho hσ
    have hlen : (l0.take n).length = n := by rw [List.length_take]; exact Nat.min_eq_left hn
    refine ⟨_, hk, base, cap, by rw [hlen], fun hne => ?_⟩
    have hl0 : l0 ≠ [] := by rintro rfl; simp at hne
    obtain ⟨b, rfl, hr⟩ := hrc hl0
    refine ⟨b, 0, rfl, ?_⟩
    rw [← rowsA_take]
    simpa using RC_take _ hr
   ·exact h.elim
  ·exact h.elim
 ·rename_i id g lo n
  split at h
  ·rename_i E t' l0 f g' ho0
   have ho := hs id _ ho0 rfl
   split at h
   ·rename_i l hc
    obtain ⟨he, hl⟩ := castL_eq hc
    subst he
    subst hl
    obtain ⟨⟨rfl, hn⟩, hk⟩ := h
    simp only [R] at hx
    obtain ⟨_, ad, cap', rfl, _, hx3⟩ := hx
    obtain ⟨_, hx2⟩ := hx3 E t' l0 f g' ho
    obtain ⟨_, base, len, cap, hσ, hb⟩ := hx2 rfl
    obtain ⟨_, hcap, hrc⟩ := own_RC hok ho hσ
    have hlen : ((l0.drop lo).take n).length = n := by rw [List.length_take, List.length_drop]; omega
    refine ⟨_, hk, ad, cap', by rw [hlen], fun hne => ?_⟩
    have hpos : 0 < n := by rw [← hlen]; exact List.length_pos_iff.2 hne
    have hl0 : l0 ≠ [] := by rintro rfl; simp at hne
    obtain ⟨b, hbase, rfl⟩ := hb hpos
    obtain ⟨b', hb', hr⟩ := hrc hl0
    rw [hbase] at hb'
    cases hb'
    refine ⟨b, lo * t'.size, rfl, ?_⟩
    rw [← rowsA_take, ← rowsA_drop]
    exact RC_take _ (RC_drop _ hr)
   ·exact h.elim
  ·exact h.elim
 ·exact h.elim

theorem grew_of {w w' : World} (h : Gb w w' none) : Grew w w' := ⟨h.os, h.tape, h.output, h.drawn, h.size, fun b hb => h.block b hb (by simp)⟩
theorem news_of {s : St} {t : Ty} {m : List t.El} {b o : Nat} (h : RC s (rowsA t m) (fun j => s.w.cell? ⟨b, o + j, none⟩)) :
  ∃ news : List Value, RL s (rowsA t m) news ∧ news.length = m.length * t.size ∧ (∀ u ∈ news, u.oneCell' = true) ∧ ∀ j u, news[j]? = some u → s.w.cell? ((⟨b, o, none⟩ : Addr).add j) = some u := by
 obtain ⟨vs, h1, h2, h3⟩ := RC_vals h
 refine ⟨vs, h1, by rw [RL_vals h1, rowsA_length], h2, fun j u hu => ?_⟩
 rw [Addr.add_mid]
 exact h3 j u hu
theorem zero_size (hT : TbOk P tb) {e : TypeId} {te : TI} (he : lk tb e = some te) {t : Ty} (hc : te.code = some t) {ie : TypeInfo} {z : Value} (hie : P.info? e = some ie) (hz : ie.zero = some z) : z.cells.size = t.size := by
  have hcs := ((tb_und hT he).code t hc).1
  have hrow := (tb_und hT he).row ie z hie hz
  cases z <;> simp only [rowZ, Bool.and_eq_true] at hrow <;> first
      | (cases hrow; done)
      | skip
  all_goals first
      | (have := Nat.eq_of_beq_eq_true hrow.2; simp only [Value.cells]; omega)
      | (have h1 : ∀ ts, te.kind ≠ .st ts := by intro ts hts; rw [hts] at hrow; simp [isRowK] at hrow
         have hone : t.size = 1 := by
           obtain ⟨d, hd, hf⟩ := (tb_und hT he).und
           have hck := ((tb_und hT he).code t hc).2
           cases t with
           | st ts =>
             obtain ⟨gs, hgs, _⟩ := chk_st hck
             rw [hd] at hgs
             cases hgs
             cases hki : te.kind <;> rw [hki] at hf <;> simp [TK.fits] at hf
             exact absurd hki (h1 _)
           | _ => rfl
         rw [hone]
         rfl)
theorem append_run (hT : TbOk P tb) {T e : TypeId} {ti te : TI} (hl : lk tb T = some ti) (hk : ti.kind = .sl e) (he : lk tb e = some te) {t : Ty} (hc : te.code = some t) {s : St} {v : Value} {n : Nat} {xs : List Value} (hown : s.w.ownsRow 0 e t.size v n xs)
  {m : List t.El} {cx : Value} (hs : Src' s t m cx) (hr : roomP te.bytes n m.length) (ty : TypeId) :
  ∃ v' w' news, (Builtin.append_ #[T, T] ty #[v, cx]).run P s.w = .ok v' w' ∧ RL s (rowsA t m) news ∧ (∀ u ∈ news, u.oneCell' = true) ∧ w'.ownsRow 0 e t.size v' (n + m.length) (xs ++ news) ∧ Gb s.w w' v.ownBlock ∧
   (v'.ownBlock = v.ownBlock ∨ v'.ownBlock = some s.w.heap.size) := by
 have hu := slice_und hT hl hk
 obtain ⟨ie, z, hie, hsz, hby, hz, hzf⟩ := (tb_und hT he).info
 have hcs := ((tb_und hT he).code t hc).1
 have hpos := (tb_und hT he).pos
 obtain ⟨hz1, _⟩ := zf_RL (s := s) hzf
 have hzl := RL_vals hz1
 obtain ⟨ad, c, rfl, hm⟩ := hs
 have hzs := zero_size hT he hc hie hz
 obtain ⟨h63, h48⟩ := hr
 by_cases hm0 : m = []
 ·subst hm0
  cases ad with
  | none =>
   refine ⟨v, s.w, [], ?_, by simp [rowsA, RL], by simp, by simpa using hown, ⟨rfl, rfl, rfl, Nat.le_refl _, Nat.le_refl _, fun _ _ _ => rfl⟩, .inl rfl⟩
   rcases hown.2 with ⟨rfl, rfl⟩ | ⟨g, cap, cur, rfl, _, _, hnc, _⟩
   ·simp [Builtin.append_, run_underlying hu, Go.sizeOf, typeInfo, hie, Builtin.lenOf, Builtin.firstCells]
   ·simp [Builtin.append_, run_underlying hu, Go.sizeOf, typeInfo, hie, Builtin.lenOf, Builtin.firstCells, hnc, storeCells]
  | some a =>
   obtain ⟨v', w', h1, h2, h3, _, h5⟩ := run_append_own_at (P := P) s.w 0 T ty e ie z t.size te.bytes hu hie hz (by omega) hby hzs (by omega) v n xs hown a 0 c [] (by simp) (by simp) (by simp) (by simpa [maxLen] using h63) (by simpa using h48) (Nat.zero_le _)
   exact ⟨v', w', [], h1, by simp [rowsA, RL], by simp, by simpa using h2, Gb.of h3 (run_drawn _ _ _ _ h1), h5⟩
 ·obtain ⟨b, o, rfl, hrc⟩ := hm hm0
  obtain ⟨news, k1, k2, k3, k4⟩ := news_of hrc
  obtain ⟨v', w', h1, h2, h3, _, h5⟩ := run_append_own_at (P := P) s.w 0 T ty e ie z t.size te.bytes hu hie hz (by omega) hby hzs (by omega) v n xs hown ⟨b, o, none⟩ m.length c news k2 k4 k3 (by simpa [maxLen] using h63) h48 (Nat.zero_le _)
  exact ⟨v', w', news, h1, k1, k3, h2, Gb.of h3 (run_drawn _ _ _ _ h1), h5⟩
theorem ownBlock_blk {v : Value} {base e size : Nat} {n : Nat} {xs : List Value} {w : World} (h : w.ownsRow base e size v n xs) : v.ownBlock = blkOf v := by
 rcases h.2 with ⟨rfl, _⟩ | ⟨g, cap, cur, rfl, _⟩ <;> rfl
theorem own_prefix {w : World} {e size : Nat} {base : Option Addr} {len cap n : Nat} {xs : List Value} (h : w.ownsRow 0 e size (.slice base len cap) len xs) (hn : n ≤ len) (h0 : base = none → n = 0 ∧ cap = 0) : w.ownsRow 0 e size (.slice base n cap) n (xs.take (n * size)) := by
 have hle : n * size ≤ len * size := Nat.mul_le_mul_right _ hn
 refine ⟨by rw [List.length_take, h.1]; omega, ?_⟩
 rcases h.2 with ⟨he, hz⟩ | ⟨g, cap', cur, he, hb, hg, hnc, hcm, hcs, htake⟩
 ·cases he
  obtain ⟨rfl, _⟩ := h0 rfl
  exact .inl ⟨rfl, rfl⟩
 ·cases he
  refine .inr ⟨g, cap, cur, rfl, hb, hg, by omega, hcm, hcs, ?_⟩
  rw [← htake, List.take_take, Nat.min_eq_left hle]
theorem write_rows {s : St} (hok : Ok s) {id : Nat} {T : TypeId} {t : Ty} {l : List t.El} {f : Bool} {g : Nat} (ho : s.h[id]? = some (.arr T t l f g)) {b len cap : Nat} (hσ : s.σ id = .slice (some ⟨b, 0, none⟩) len cap) {m : List t.El} {news : List Value} (hrl : RL s (rowsA t m) news) (h1 : ∀ u ∈ news, u.oneCell' = true) {p : Nat} (hp : p + m.length ≤ l.length) :
  ∃ cur : Array Value, s.w.heap[b]? = some (.cells cur T (0, 0)) ∧ p * t.size + news.length ≤ cur.size ∧
   Step s (s.turn id (.arr T t (l.take p ++ (m ++ l.drop (p + m.length))) f g) (s.σ id) (s.w.setRow b (cur.toList.take (p * t.size) ++ news ++ cur.toList.drop (p * t.size + news.length)).toArray)) ∧
   Ok (s.turn id (.arr T t (l.take p ++ (m ++ l.drop (p + m.length))) f g) (s.σ id) (s.w.setRow b (cur.toList.take (p * t.size) ++ news ++ cur.toList.drop (p * t.size + news.length)).toArray)) := by
 obtain ⟨xs, hown, hone, hrow, hfull⟩ := hok.obj id _ ho
 have hxs := hown.1
 have hRL := rows_RL hxs hrow
 rw [hσ] at hown
 rcases hown.2 with ⟨he, _⟩ | ⟨b', cap', cur, he, hb0, hg, hnc, hcm, hcs, htake⟩
 ·cases he
 ·cases he
  have hnl : news.length = m.length * t.size := by rw [RL_vals hrl, rowsA_length]
  have hmul : (p + m.length) * t.size ≤ l.length * t.size := Nat.mul_le_mul_right _ hp
  rw [Nat.add_mul] at hmul
  have hcapm : l.length * t.size ≤ cap * t.size := Nat.mul_le_mul_right _ hnc
  have hll : (l.take p ++ (m ++ l.drop (p + m.length))).length = l.length := by
   simp only [List.length_append, List.length_take, List.length_drop]; omega
  have hw : Gb s.w (s.w.setRow b (cur.toList.take (p * t.size) ++ news ++ cur.toList.drop (p * t.size + news.length)).toArray) (blkOf (s.σ id)) := by
   rw [hσ]; exact setRow_grownBy _ _ _
  have hcmp : Cmp (.arr T t l f g) (s.σ id) (.arr T t (l.take p ++ (m ++ l.drop (p + m.length))) f g) (s.σ id) := .arr _ _ _ _ _ _ _ _ _ _ (Nat.le_refl _) (fun _ => ⟨rfl, hll⟩)
  have hst := St.turn_step ho hcmp hw (fun b hb => .inl hb)
  refine ⟨cur, hg, by rw [hcs, hnl]; omega, hst, St.turn_ok hok ho hcmp hw (fun b hb => .inl hb) ?_⟩
  have hxl : xs.length = l.length * t.size := hxs
  have hone2 := one_splice hone h1 (p * t.size)
  have hRL2 : RL s (rowsA t (l.take p ++ (m ++ l.drop (p + m.length)))) (xs.take (p * t.size) ++ (news ++ xs.drop (p * t.size + news.length))) := by
   rw [rowsA_append, rowsA_append, ← rowsA_take, ← rowsA_drop, hnl, ← Nat.add_mul]
   exact RL_append (RL_take _ hRL) (RL_append hrl (RL_drop _ hRL))
  refine ⟨xs.take (p * t.size) ++ (news ++ xs.drop (p * t.size + news.length)), ?_, hone2, fun i y hi => RT_mono hst _ y _ _ (fun _ _ hv => hv) (RL_rows hRL2 hone2 i y hi), ?_⟩
  ·simp only [St.turn, upd_same]
   rw [hσ]
   refine ⟨?_, .inr ⟨b, cap, _, by rw [hll], Nat.zero_le _, setRow_heap _ _ _ _ _ _ hg, by rw [hll]; exact hnc, hcm, ?_, ?_⟩⟩
   ·rw [spl_length _ _ _ (by omega), hll]
    exact hxl
   ·simp only [List.size_toArray]
    rw [List.append_assoc, spl_length _ _ _ (by simp; omega)]
    simpa using hcs
   ·rw [hll]
    apply List.ext_getElem?
    intro k
    rw [List.getElem?_take]
    by_cases hk : k < l.length * t.size
    ·rw [if_pos hk, List.append_assoc, spl_get _ _ _ _ (by simp; omega), spl_get _ _ _ _ (by omega)]
     rw [← htake, List.getElem?_take, if_pos hk]
    ·rw [if_neg hk, List.getElem?_eq_none]
     rw [spl_length _ _ _ (by omega)]
     omega
  ·intro hf
   obtain ⟨base, hb⟩ := hfull hf
   exact ⟨base, by simp only [St.turn, upd_same]; rw [hll]; exact hb⟩
theorem write_none {s : St} {id : Nat} {T : TypeId} {t : Ty} {l : List t.El} {f : Bool} {g : Nat} (ho : s.h[id]? = some (.arr T t l f g)) : s = s.turn id (.arr T t l f g) (s.σ id) s.w := by
 have h1 : s.h.set id (.arr T t l f g) = s.h := by
  obtain ⟨hlt, he⟩ := List.getElem?_eq_some_iff.1 ho
  rw [← he]
  exact List.set_getElem_self hlt
 unfold St.turn
 rw [h1]
 have h2 : upd s.σ id (s.σ id) = s.σ := by
  funext j
  unfold upd
  split
  ·rename_i e; rw [e]
  ·rfl
 rw [h2]
theorem append_Gp (hT : TbOk P tb) {s : St} (hok : Ok s) {h0 : Hp} (hs : SubH h0 s.h) {nid : Nat} (hf : Free s.h nid) {T ty : TypeId} {a x : AV} {ca cx : Value} (ha : R s a ca) (hx : R s x cx) {v : AV} {ob : Option AObj} (h : (pAppend tb h0 nid T a x).Is v ob) : Gp P (Builtin.append_ #[T, T] ty #[ca, cx]) s (posA nid a) v ob := by
  unfold pAppend at h
  split at h
  · rename_i ti hl
    split at h
    · rename_i e hk
      split at h
      · rename_i te he
        split at h
        · rename_i t hc
          have fresh : ∀ (l : List t.El) (news : List Value) (v' : Value) (w' : World) (n : Nat), n = l.length → RL s (rowsA t l) news → (∀ u ∈ news, u.oneCell' = true) → w'.ownsRow 0 e t.size v' n news → Grew s.w w' → (∀ b, blkOf v' = some b → s.w.heap.size ≤ b) →
              (Builtin.append_ #[T, T] ty #[ca, cx]).run P s.w = .ok v' w' → Gp P (Builtin.append_ #[T, T] ty #[ca, cx]) s nid (.own nid 0 n) (some (.arr e t l false 0)) := by
            intro l news v' w' n hn hrl h1 hown hw hb hr
            subst hn
            have hst := St.new_step (s := s) (nid := nid) hf (ob := .arr e t l false 0) hw hb
            refine ⟨v', s.new nid (.arr e t l false 0) v' w', hr, hst, St.new_ok hok hf hw hb ?_, ?_, rfl⟩
            · refine ⟨news, ?_, h1, fun i y hi => RT_mono hst t y _ _ (fun _ _ hv => hv) (RL_rows hrl h1 i y hi), fun hq => by cases hq⟩
              simp only [St.new, upd_same]
              exact hown
            · have hform : ∃ base cap, v' = .slice base l.length cap := by
                rcases hown.2 with ⟨rfl, h0⟩ | ⟨g, cap, cur, rfl, _⟩
                · exact ⟨none, 0, by rw [h0]⟩
                · exact ⟨_, cap, rfl⟩
              obtain ⟨base, cap, rfl⟩ := hform
              simp only [R]
              have hget : (s.new nid (.arr e t l false 0) (.slice base l.length cap) w').h[nid]? = some (.arr e t l false 0) := put_same hf _
              refine ⟨by unfold kn; rw [hget], base, cap, rfl, fun T' t' l' f g0 hq => ?_⟩
              rw [hget] at hq
              cases hq
              exact ⟨Nat.le_refl _, fun _ => ⟨Nat.le_refl _, l.length, by simp only [St.new, upd_same]⟩⟩
          have tight : ∀ ad (l0 : List t.El), ca = .slice ad l0.length l0.length → (l0 ≠ [] → ∃ b o, ad = some ⟨b, o, none⟩ ∧ RC s (rowsA t l0) (fun j => s.w.cell? ⟨b, o + j, none⟩)) → posA nid a = nid →
              (srcOf h0 t x fun m => .need (roomP te.bytes l0.length m.length) (.br (decide (m.length = 0)) (.ok a none) (.ok (.own nid 0 (l0.length + m.length)) (some (.arr e t (l0 ++ m) false 0))))).Is v ob → Gp P (Builtin.append_ #[T, T] ty #[ca, cx]) s (posA nid a) v ob := by
            intro ad l0 hca hrc hpa h
            obtain ⟨m, h, hsrc⟩ := src_ok hok hx hs h
            obtain ⟨hroom, h⟩ := h
            subst hca
            rw [hpa]
            rcases h with ⟨h0, hv, hob⟩ | ⟨h0, hv, hob⟩ <;> subst hv hob
            · have hm0 : m = [] := List.eq_nil_of_length_eq_zero (of_decide_eq_true h0)
              subst hm0
              obtain ⟨ad2, c2, rfl, _⟩ := hsrc
              refine ⟨_, s, ?_, Step.refl s, hok, ha, rfl⟩
              have hu := slice_und hT hl hk
              obtain ⟨ie, z, hie, _⟩ := (tb_und hT he).info
              cases ad <;> cases ad2 <;> simp [Builtin.append_, run_underlying hu, Go.sizeOf, typeInfo, hie, Builtin.lenOf, Builtin.firstCells, storeCells, loadCells, loadCellsFrom]
            · have hm0 : m.length ≠ 0 := of_decide_eq_false h0
              have hmne : m ≠ [] := by rintro rfl; exact hm0 rfl
              have hu := slice_und hT hl hk
              obtain ⟨ie, z, hie, hsz, hby, hz, hzf⟩ := (tb_und hT he).info
              have hcs := ((tb_und hT he).code t hc).1
              obtain ⟨ad2, c2, rfl, hm2⟩ := hsrc
              obtain ⟨b2, o2, rfl, hrm⟩ := hm2 hmne
              obtain ⟨news, k1, k2, k3, k4⟩ := news_of hrm
              obtain ⟨h63, h48⟩ := hroom
              have hzs := zero_size hT he hc hie hz
              cases ad with
              | none =>
                have hl0 : l0 = [] := by
                  by_cases hl0 : l0 = []
                  · exact hl0
                  · obtain ⟨b, o, he', _⟩ := hrc hl0
                    cases he'
                subst hl0
                obtain ⟨v', w', h1, h2, h3, _, h5⟩ := run_append_own_at (P := P) s.w 0 T ty e ie z t.size te.bytes hu hie hz (by omega) hby hzs (by have := (tb_und hT he).pos; omega) (.slice none 0 0) 0 [] (World.ownsRow_nil s.w 0 e t.size) ⟨b2, o2, none⟩ m.length c2 news k2 k4 k3 (by simpa [maxLen] using h63) (by simpa using h48) (Nat.zero_le _)
                simp only [Nat.zero_add, List.nil_append] at h2
                refine fresh _ news v' w' _ (by simp) (by simpa using k1) k3 (by simpa using h2) (grew_of (Gb.of h3 (run_drawn _ _ _ _ h1))) ?_ h1
                intro b hb
                rw [← ownBlock_blk h2] at hb
                rcases h5 with h5 | h5
                · rw [h5] at hb; cases hb
                · rw [h5] at hb; cases hb; exact Nat.le_refl _
              | some ad =>
                have hold : ∃ olds : List Value, RL s (rowsA t l0) olds ∧ olds.length = l0.length * t.size ∧ (∀ u ∈ olds, u.oneCell' = true) ∧ ∀ j u, olds[j]? = some u → s.w.cell? (ad.add j) = some u := by
                  by_cases hl0 : l0 = []
                  · subst hl0
                    exact ⟨[], by simp [rowsA, RL], by simp, by simp, by simp⟩
                  · obtain ⟨b, o, he', hrl⟩ := hrc hl0
                    cases he'
                    exact news_of hrl
                obtain ⟨olds, j1, j2, j3, j4⟩ := hold
                have hr := run_append_grow (P := P) s.w T ty e ie z hu hie hz ad l0.length l0.length olds (by rw [j2]; congr 1; omega) j4 ⟨b2, o2, none⟩ m.length c2 news (by rw [k2]; congr 1; omega) k4 (by omega) (by omega) (growslice_fits (by omega) (by rw [hby]; exact h48))
                have hge := grownCap_ge s.w (l0.length + m.length) l0.length e
                have hcm : grownCap s.w (l0.length + m.length) l0.length e ≤ maxLen := grownCap_le_maxLen s.w _ _ e (by simpa [maxLen] using h63)
                refine fresh (l0 ++ m) (olds ++ news) _ _ _ (by simp) (by rw [rowsA_append]; exact RL_append j1 k1) ?_ ?_ ?_ ?_ hr
                · intro u hu
                  rcases List.mem_append.1 hu with hu | hu
                  · exact j3 u hu
                  · exact k3 u hu
                · refine ⟨by rw [List.length_append, j2, k2, ← Nat.add_mul], .inr ⟨s.w.heap.size, _, _, rfl, Nat.zero_le _, heap_alloc_new s.w.drew _, hge, hcm, ?_, ?_⟩⟩
                  · simp only [Array.size_append, List.size_toArray, size_zeroCells, hzs, j2, k2, ← Nat.add_mul]
                    congr 1
                    omega
                  · simp only [Array.toList_append, List.append_assoc]
                    rw [← List.append_assoc, Nat.add_mul, ← j2, ← k2, ← List.length_append]
                    exact List.take_left
                · exact ⟨rfl, rfl, rfl, Nat.le_succ _, by simp, fun k hk => heap_alloc_old s.w.drew _ k hk⟩
                · intro k hk
                  cases hk
                  exact Nat.le_refl _
          split at h
          · rename_i id g n
            split at h
            · rename_i e' t' l0 f g' ho0
              have ho := hs id _ ho0 rfl
              split at h
              · rename_i l hcast hbeq
                obtain ⟨hte, hl0⟩ := castL_eq hcast
                subst hte
                subst hl0
                have := Nat.eq_of_beq_eq_true hbeq
                subst this
                obtain ⟨m, h, hsrc⟩ := src_ok hok hx hs h
                obtain ⟨⟨hgg, hn, hroom⟩, h⟩ := h
                have grow : (Res.ok (.own id (g + 1) (n + m.length)) (some (.arr e' t' (l0.take n ++ m) false (g + 1)))).Is v ob → Gp P (Builtin.append_ #[T, T] ty #[ca, cx]) s (posA nid (.own id g n)) v ob := by
                 rintro ⟨hv, hob⟩
                 subst hgg hv hob
                 have hlt : id < s.h.length := (List.getElem?_eq_some_iff.1 ho).1
                 simp only [R] at ha
                 obtain ⟨hkn, base, cap, rfl, ha⟩ := ha
                 obtain ⟨_, ha2⟩ := ha e' t' l0 f g' ho
                 obtain ⟨_, len, hσ⟩ := ha2 rfl
                 obtain ⟨xs, hown, h1, hrow, _⟩ := hok.obj id _ ho
                 have hRL := rows_RL hown.1 hrow
                 have hblk := ownBlock_blk hown
                 rw [hσ] at hown
                 have hlen : len = l0.length := by
                   rcases hown.2 with ⟨he', hz⟩ | ⟨_, _, _, he', _⟩
                   · cases he'; exact hz.symm
                   · cases he'; rfl
                 subst hlen
                 have hpre := own_prefix (n := n) hown hn (fun hb => by
                   subst hb
                   rcases hown.2 with ⟨he', hz⟩ | ⟨_, _, _, he', _⟩
                   · injection he' with _ e1 e2
                     exact ⟨by omega, e2⟩
                   · injection he' with e0 _ _
                     cases e0)
                 obtain ⟨v', w', news, hr, k1, k2, k3, k4, k5⟩ := append_run hT hl hk he hc hpre hsrc hroom ty
                 have hlm : (l0.take n ++ m).length = n + m.length := by rw [List.length_append, List.length_take, Nat.min_eq_left hn]
                 have hblk2 : (Value.slice base n cap).ownBlock = blkOf (s.σ id) := by rw [hσ]; cases base <;> rfl
                 rw [hblk2] at k4 k5
                 have hcmp : Cmp (.arr e' t' l0 f g') (s.σ id) (.arr e' t' (l0.take n ++ m) false (g' + 1)) v' := .arr _ _ _ _ _ _ _ _ _ _ (Nat.le_succ _) (fun h => by omega)
                 have hb : ∀ b, blkOf v' = some b → blkOf (s.σ id) = some b ∨ s.w.heap.size ≤ b := by
                   intro b hb
                   rw [← ownBlock_blk k3] at hb
                   rcases k5 with k5 | k5
                   · rw [k5] at hb; exact .inl hb
                   · rw [k5] at hb; cases hb; exact .inr (Nat.le_refl _)
                 have hst := St.turn_step ho hcmp k4 hb
                 have hRL2 : RL s (rowsA t' (l0.take n ++ m)) (xs.take (n * t'.size) ++ news) := by
                   rw [rowsA_append, ← rowsA_take]
                   exact RL_append (RL_take _ hRL) k1
                 have hone : ∀ u ∈ xs.take (n * t'.size) ++ news, u.oneCell' = true := by
                   intro u hu
                   rcases List.mem_append.1 hu with hu | hu
                   · exact h1 u (List.mem_of_mem_take hu)
                   · exact k2 u hu
                 refine ⟨v', s.turn id (.arr e' t' (l0.take n ++ m) false (g' + 1)) v' w', hr, hst, St.turn_ok hok ho hcmp k4 hb ?_, ?_, (set_put hlt _).symm⟩
                 · refine ⟨_, ?_, hone, fun i y hi => RT_mono hst _ y _ _ (fun _ _ hv => hv) (RL_rows hRL2 hone i y hi), fun hq => by cases hq⟩
                   simp only [St.turn, upd_same]
                   rw [hlm]
                   exact k3
                 · have hform : ∃ base cap, v' = .slice base (n + m.length) cap := by
                     rcases k3.2 with ⟨rfl, h0⟩ | ⟨g, cap, cur, rfl, _⟩
                     · exact ⟨none, 0, by rw [h0]⟩
                     · exact ⟨_, cap, rfl⟩
                   obtain ⟨base', cap', rfl⟩ := hform
                   simp only [R]
                   refine ⟨?_, base', cap', rfl, fun T' t2 l' f' g0 hq => ?_⟩
                   · unfold kn
                     rw [turn_get ho]
                   · rw [turn_get ho] at hq
                     cases hq
                     exact ⟨Nat.le_refl _, fun _ => ⟨by rw [hlm]; exact Nat.le_refl _, n + m.length, by simp only [St.turn, upd_same]⟩⟩
                split at h
                · rcases h with ⟨hdec, hv, hob⟩ | ⟨_, h⟩
                  · subst hgg hv hob
                    have hfit : n + m.length ≤ (l0 : List t'.El).length := of_decide_eq_true hdec
                    have hlt : id < s.h.length := (List.getElem?_eq_some_iff.1 ho).1
                    simp only [R] at ha
                    obtain ⟨hkn, base, cap, rfl, ha⟩ := ha
                    obtain ⟨_, ha2⟩ := ha e' t' l0 true g' ho
                    obtain ⟨_, len, hσ⟩ := ha2 rfl
                    have hu := slice_und hT hl hk
                    obtain ⟨ie, z, hie, hsz, hby, hz, hzf⟩ := (tb_und hT he).info
                    have hcs := ((tb_und hT he).code t' hc).1
                    obtain ⟨xs, hown, h1, hrow, hfull⟩ := hok.obj id _ ho
                    obtain ⟨base', hb'⟩ := hfull rfl
                    rw [hσ] at hb'
                    injection hb' with e0 e1 e2
                    obtain ⟨ad2, c2, rfl, hm2⟩ := hsrc
                    have fin : ∀ w', Step s (s.turn id (.arr e' t' (l0.take n ++ (m ++ l0.drop (n + m.length))) true g') (s.σ id) w') → Ok (s.turn id (.arr e' t' (l0.take n ++ (m ++ l0.drop (n + m.length))) true g') (s.σ id) w') →
                        (Builtin.append_ #[T, T] ty #[.slice base n cap, .slice ad2 m.length c2]).run P s.w = .ok (.slice base (n + m.length) cap) w' → Gp P (Builtin.append_ #[T, T] ty #[.slice base n cap, .slice ad2 m.length c2]) s (posA nid (.own id g' n)) (.own id g' (n + m.length)) (some (.arr e' t' (l0.take n ++ (m ++ l0.drop (n + m.length))) true g')) := by
                      intro w' hst hok' hr
                      refine ⟨_, _, hr, hst, hok', ?_, (set_put hlt _).symm⟩
                      simp only [R]
                      refine ⟨?_, base, cap, rfl, fun T' t2 l' f' g0 hq => ?_⟩
                      · unfold kn
                        rw [turn_get ho]
                      · rw [turn_get ho] at hq
                        cases hq
                        refine ⟨Nat.le_refl _, fun _ => ⟨?_, len, by simp only [St.turn, upd_same]; exact hσ⟩⟩
                        simp only [List.length_append, List.length_take, List.length_drop]
                        omega
                    by_cases hm0 : m = []
                    · subst hm0
                      have hnil : l0.take n ++ ([] ++ l0.drop (n + ([] : List t'.El).length)) = l0 := by simp
                      have hself := write_none ho
                      refine fin s.w (by rw [hnil, ← hself]; exact Step.refl s) (by rw [hnil, ← hself]; exact hok) ?_
                      have hle : n ≤ cap := by rw [e2]; omega
                      cases base <;> cases ad2 <;> simp [Builtin.append_, run_underlying hu, Go.sizeOf, typeInfo, hie, Builtin.lenOf, Builtin.firstCells, storeCells, loadCells, loadCellsFrom, hle]
                    · obtain ⟨b2, o2, rfl, hrm⟩ := hm2 hm0
                      obtain ⟨news, k1, k2, k3, k4⟩ := news_of hrm
                      have hpos : 0 < l0.length := by
                        have := List.length_pos_iff.2 hm0
                        omega
                      have hbase : ∃ b, base = some ⟨b, 0, none⟩ := by
                        rw [hσ] at hown
                        rcases hown.2 with ⟨he', hz'⟩ | ⟨b', _, _, he', _⟩
                        · have hz' : (l0 : List t'.El).length = 0 := hz'
                          omega
                        · cases he'; exact ⟨b', rfl⟩
                      obtain ⟨b, rfl⟩ := hbase
                      obtain ⟨cur, hg1, hg2, hst, hok'⟩ := write_rows hok ho hσ k1 k3 (p := n) hfit
                      refine fin _ hst hok' ?_
                      have hfc := run_firstCells_some (P := P) s.w ie.size m.length ⟨b2, o2, none⟩ m.length c2 news (by rw [k2]; congr 1; omega) k4
                      have hstr := run_storeCells_at P b (n * t'.size) e' news 0 cur s.w hg1 (by simpa using hg2) k3
                      simp only [Nat.add_zero] at hstr
                      have hsze : ie.size = t'.size := by omega
                      have hle : n + m.length ≤ cap := by rw [e2]; omega
                      rw [hsze] at hfc
                      simp [Builtin.append_, run_underlying hu, Go.sizeOf, typeInfo, hie, Builtin.lenOf, hle, hfc, Addr.add_lit, hsze, hstr]
                  · exact grow h
                · exact grow h
              · exact h.elim
            · exact h.elim
          · rename_i t0 l0
            unfold pTight at h
            have ha' := ha
            simp only [R] at ha'
            obtain ⟨_, ad, hca⟩ := ha'
            obtain ⟨l, h, ad', c', hca', hrc⟩ := src_ok hok ha hs h
            rw [hca] at hca'
            injection hca' with e0 e1 e2
            subst e0
            exact tight ad l (by rw [hca, e1]) hrc rfl h
          · rename_i id g lo n
            unfold pTight at h
            have ha' := ha
            simp only [R] at ha'
            obtain ⟨_, ad, hca⟩ := ha'
            obtain ⟨l, h, ad', c', hca', hrc⟩ := src_ok hok ha hs h
            rw [hca] at hca'
            injection hca' with e0 e1 e2
            subst e0
            exact tight ad l (by rw [hca, e1]) hrc rfl h
          · obtain ⟨m, h, hsrc⟩ := src_ok hok hx hs h
            obtain ⟨hroom, hv, hob⟩ := h
            subst hv hob
            simp only [R] at ha
            subst ha
            obtain ⟨v', w', news, hr, k1, k2, k3, k4, k5⟩ := append_run hT hl hk he hc (World.ownsRow_nil s.w 0 e t.size) hsrc hroom ty
            simp only [Nat.zero_add, List.nil_append] at k3
            refine fresh m news v' w' m.length rfl k1 k2 k3 (grew_of k4) ?_ hr
            intro b hb
            rw [← ownBlock_blk k3] at hb
            rcases k5 with k5 | k5
            · rw [k5] at hb; cases hb
            · rw [k5] at hb; cases hb; exact Nat.le_refl _
          · obtain ⟨m, h, hsrc⟩ := src_ok hok hx hs h
            obtain ⟨hroom, hv, hob⟩ := h
            subst hv hob
            simp only [R] at ha
            subst ha
            obtain ⟨v', w', news, hr, k1, k2, k3, k4, k5⟩ := append_run hT hl hk he hc (World.ownsRow_nil s.w 0 e t.size) hsrc hroom ty
            simp only [Nat.zero_add, List.nil_append] at k3
            refine fresh m news v' w' m.length rfl k1 k2 k3 (grew_of k4) ?_ hr
            intro b hb
            rw [← ownBlock_blk k3] at hb
            rcases k5 with k5 | k5
            · rw [k5] at hb; cases hb
            · rw [k5] at hb; cases hb; exact Nat.le_refl _
          · exact h.elim
        · exact h.elim
      · exact h.elim
    · exact h.elim
  · exact h.elim
theorem copy_core (hT : TbOk P tb) {s : St} (hok : Ok s) {T ty e : TypeId} {ti te : TI} (hl : lk tb T = some ti) (hk : ti.kind = .sl e) (he : lk tb e = some te) {t : Ty} (hc : te.code = some t) {id : Nat} {l : List t.El} {f : Bool} {g : Nat} (ho : s.h[id]? = some (.arr e t l f g))
  {base : Option Addr} {cap' lo n : Nat} (hle : lo + n ≤ l.length) (hb : 0 < n → ∃ b len cap, s.σ id = .slice (some ⟨b, 0, none⟩) len cap ∧ base = some ⟨b, lo * t.size, none⟩) {m : List t.El} {cx : Value} (hsrc : Src' s t m cx) :
  Gp P (Builtin.copy_ #[T, T] ty #[.slice base n cap', cx]) s id (.int .i64 (min m.length n : Nat)) (some (.arr e t (l.take lo ++ (m.take n ++ l.drop (lo + (m.take n).length))) f g)) := by
 have hu := slice_und hT hl hk
 obtain ⟨ie, z, hie, hsz, hby, hz, hzf⟩ := (tb_und hT he).info
 have hcs := ((tb_und hT he).code t hc).1
 have hlt : id < s.h.length := (List.getElem?_eq_some_iff.1 ho).1
 obtain ⟨ad2, c2, rfl, hm2⟩ := hsrc
 have hsze : ie.size = t.size := by omega
 by_cases hk0 : m.take n = []
 ·have hnil : l.take lo ++ (m.take n ++ l.drop (lo + (m.take n).length)) = l := by rw [hk0]; simp
  have hself := write_none ho
  have hmin : min m.length n = 0 := by
   have := congrArg List.length hk0
   rw [List.length_take] at this
   simp at this
   rcases this with h | h
   ·rw [h]; simp
   ·rw [h]; simp
  rw [hnil, hmin]
  refine ⟨.int .i64 0, s, ?_, Step.refl s, hok, by simp only [R]; rfl, ?_⟩
  ·have hl2 : ∀ (y : Addr), (loadCells y 0).run P s.w = .ok #[] s.w := fun y => by simpa using run_loadCells_list (P := P) (w := s.w) y [] (by simp)
   have hmin2 : Nat.min m.length n = 0 := hmin
   cases base <;> cases ad2 <;> simp [Builtin.copy_, run_underlying hu, Builtin.lenOf, Builtin.firstCells, Go.sizeOf, typeInfo, hie, hmin2, storeCells, hl2, goInt]
  ·show s.h = put s.h id _
   rw [set_put hlt]
   obtain ⟨hlt2, he2⟩ := List.getElem?_eq_some_iff.1 ho
   rw [← he2]
   exact (List.set_getElem_self hlt2).symm
 ·have hn : 0 < n := by
   rcases Nat.eq_zero_or_pos n with h | h
   ·subst h; simp at hk0
   ·exact h
  have hmne : m ≠ [] := by rintro rfl; simp at hk0
  obtain ⟨b, len, cap, hσ, rfl⟩ := hb hn
  obtain ⟨b2, o2, rfl, hrm⟩ := hm2 hmne
  have hrk : RC s (rowsA t (m.take n)) (fun j => s.w.cell? ⟨b2, o2 + j, none⟩) := by
   rw [← rowsA_take]
   exact RC_take _ hrm
  obtain ⟨news, k1, k2, k3, k4⟩ := news_of hrk
  have hlk : (m.take n).length = min m.length n := by rw [List.length_take, Nat.min_comm]
  obtain ⟨cur, hg1, hg2, hst, hok'⟩ := write_rows hok ho hσ k1 k3 (p := lo) (by rw [hlk]; omega)
  refine ⟨.int .i64 (min m.length n : Nat), _, ?_, hst, hok', by simp only [R], (set_put hlt _).symm⟩
  have hfc := run_firstCells_some (P := P) s.w ie.size (min m.length n) ⟨b2, o2, none⟩ m.length c2 news (by rw [k2, hlk]; congr 1; omega) k4
  have hstr := run_storeCells_at P b (lo * t.size) e news 0 cur s.w hg1 (by simpa using hg2) k3
  simp only [Nat.add_zero] at hstr
  rw [hsze] at hfc
  have hfc2 : (Builtin.firstCells t.size (Nat.min m.length n) (.slice (some ⟨b2, o2, none⟩) m.length c2)).run P s.w = .ok news.toArray s.w := hfc
  simp [Builtin.copy_, run_underlying hu, Builtin.lenOf, Go.sizeOf, typeInfo, hie, hsze, hfc2, hstr, goInt, St.turn]
  try rfl
theorem copy_Gp (hT : TbOk P tb) {s : St} (hok : Ok s) {h0 : Hp} (hs : SubH h0 s.h) {T ty : TypeId} {d x : AV} {cd cx : Value} (hd : R s d cd) (hx : R s x cx) {v : AV} {ob : Option AObj} (h : (pCopy tb h0 T d x).Is v ob) : Gp P (Builtin.copy_ #[T, T] ty #[cd, cx]) s (pid d) v ob := by
 unfold pCopy at h
 split at h
 ·rename_i ti hl
  split at h
  ·rename_i e hk
   split at h
   ·rename_i te he
    split at h
    ·rename_i t hc
     simp only at h
     split at h
     ·rename_i id g n
      split at h
      ·rename_i e' t' l0 f g' ho0
       have ho := hs id _ ho0 rfl
       split at h
       ·rename_i l hcast hbeq
        obtain ⟨hte, hl0⟩ := castL_eq hcast
        subst hte
        have hl0' : l0 = l := hl0
        subst hl0'
        have := Nat.eq_of_beq_eq_true hbeq
        subst this
        obtain ⟨m, h, hsrc⟩ := src_ok hok hx hs h
        obtain ⟨⟨rfl, hn⟩, rfl, rfl⟩ := h
        simp only [R] at hd
        obtain ⟨_, base, cap, rfl, hd3⟩ := hd
        obtain ⟨_, hd2⟩ := hd3 e' t' l0 f g' ho
        obtain ⟨_, len, hσ⟩ := hd2 rfl
        refine copy_core hT hok hl hk he hc ho hn (fun hpos => ?_) hsrc
        obtain ⟨_, _, hrc⟩ := own_RC hok ho hσ
        obtain ⟨b, rfl, _⟩ := hrc (by rintro rfl; simp at hn; omega)
        exact ⟨b, len, cap, hσ, by simp⟩
       ·exact h.elim
      ·exact h.elim
     ·rename_i id g lo n
      split at h
      ·rename_i e' t' l0 f g' ho0
       have ho := hs id _ ho0 rfl
       split at h
       ·rename_i l hcast hbeq
        obtain ⟨hte, hl0⟩ := castL_eq hcast
        subst hte
        have hl0' : l0 = l := hl0
        subst hl0'
        have := Nat.eq_of_beq_eq_true hbeq
        subst this
        obtain ⟨m, h, hsrc⟩ := src_ok hok hx hs h
        obtain ⟨⟨rfl, hn⟩, rfl, rfl⟩ := h
        simp only [R] at hd
        obtain ⟨_, ad, cap', rfl, _, hd3⟩ := hd
        obtain ⟨_, hd2⟩ := hd3 e' t' l0 f g' ho
        obtain ⟨_, base, len, cap, hσ, hbb⟩ := hd2 rfl
        refine copy_core hT hok hl hk he hc ho hn (fun hpos => ?_) hsrc
        obtain ⟨b, rfl, rfl⟩ := hbb hpos
        exact ⟨b, len, cap, hσ, rfl⟩
       ·exact h.elim
      ·exact h.elim
     ·exact h.elim
    ·exact h.elim
   ·exact h.elim
  ·exact h.elim
 ·exact h.elim
end
end Av
