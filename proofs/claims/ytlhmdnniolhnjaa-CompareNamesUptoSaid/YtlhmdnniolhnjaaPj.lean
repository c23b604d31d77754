/-
  append, buildSlice, store; all operations that make or write memory. Own work.
-/
import Derived.Test.YtlhmdnniolhnjaaPi
namespace Go.PL
open Go

section
variable {P : Program} {E : Env} {F : Nat → Prop} {g : Nat → Value} {st : St} {a : Act} {w : World}

theorem RowR.obj {s n b cap : Nat} {f : Nat → List T} {e : TypeId} {o : Nat} {cur : Array Value} (h : RowR F w s n f (cur[·]?)) (h1 : g o = .slice (some ⟨b, 0, none⟩) n cap)
    (h2 : w.heap[b]? = some (.cells cur e (0, 0))) (h3 : n ≤ cap) (h4 : cap ≤ maxLen) (h5 : cur.size = cap * s) : ObjR F g w o (.arr e s n f) :=
  .inr ⟨b, cap, cur, h1, h2, h3, h4, h5, h.len, h.get⟩

theorem Src.get {s m : Nat} {f : Nat → List T} {v : Value} {news : List Value} (h : Src F w s m f v news) {k : Nat} (hk : k < m * s) : ∃ u, news[k]? = some u :=
  ⟨news[k]'(by rw [h.len]; exact hk), List.getElem?_eq_getElem _⟩

/-- a slice that is nil, or none of ours: append makes a new row -/
theorem append_nil_ok {I : Inf} (hn : E.N = I.N) (hnt : E.nt = I.nt) (r : RelG E F g st a w) {t e : TypeId} {j : TInf} (hd : P.underlying t = some (.slice e)) (hj : TOk P e j) (ty : TypeId) {d m : Nat}
    (hb : 1 ≤ j.bytes) (hz : j.zero.length = j.size) {f : Nat → List T} {v : Value} {news : List Value} (hs : Src F w j.size m f v news) (hC : m * j.bytes ≤ 140737488355328) {st' : St}
    (h : newP I st d (.arr e j.size m f) (.own d) = some st') : ∃ u w', (Builtin.append_ #[t, t] ty #[.slice none 0 0, v]).run P w = .ok u w' ∧ Rel E st' (a.put (some d) u) w' := by
  obtain ⟨info, z, hi1, hi2, hi3, _⟩ := zero_ok (F := F) (g := g) (w := w) hj
  obtain ⟨info', hi1', hi4, hi5, _⟩ := hj.info
  rw [hi1] at hi1'; cases hi1'
  have hm63 : m ≤ 140737488355328 := Nat.le_trans (Nat.le_mul_of_pos_right m hb) hC
  have hzero : ∀ (x : Value), m = 0 → (∃ ad c, x = .slice ad 0 c) → (Builtin.append_ #[t, t] ty #[.slice none 0 0, x]).run P w = .ok (.slice none 0 0) w := by
    rintro x rfl ⟨ad, c, rfl⟩
    cases ad <;> simp [Builtin.append_, run_underlying hd, sizeOf, typeInfo, hi1, Builtin.lenOf, Builtin.firstCells, loadCells, loadCellsFrom]
  by_cases hm : m = 0
  · refine ⟨.slice none 0 0, w, hzero v hm ?_, ?_⟩
    · rcases hs.shape with ⟨c, rfl, _⟩ | ⟨ad, c, rfl, _⟩
      · exact ⟨none, c, by rw [hm]⟩
      · exact ⟨some ad, c, by rw [hm]⟩
    · -- no block: the name stands for nil
      unfold newP at h
      split at h
      · rename_i st1 h1 h2 h3
        cases h
        have hd' : d < E.nt := by rw [hnt]; simpa [Nat.blt_eq] using h1
        refine ⟨F, upd g d (.slice none 0 0), r.putW hd' (fun b hb => ⟨hb, rfl⟩) (fun t y hy => ?_) ?_ (.own (upd_same ..))⟩
        · obtain ⟨e1, e2⟩ := St.erase_fr h3 t y hy
          exact ⟨e1, fun o ho => upd_other g _ (e2 o ho)⟩
        · refine ⟨HpR.change r.w.hp h3 (fun o ho => upd_other g _ ho) (fun b hb => ⟨hb, rfl⟩) (fun _ h => h) (fun _ _ _ _ _ _ => rfl) (.inl ⟨upd_same .., hm⟩)
            (fun b hb => by rw [upd_same] at hb; simp [blk] at hb) (fun o y b _ _ _ hb => by rw [upd_same] at hb; simp [blk] at hb), r.w.f0, r.w.f1, r.w.ext, fun o ho => ?_, r.w.b0⟩
          rw [upd_other g _ (fun e : o = d => nmem_ok h2 (hn ▸ e ▸ ho))]
          exact r.w.names o ho
      · cases h
  · rcases hs.shape with ⟨c, rfl, h0⟩ | ⟨ad, c, rfl, hc⟩
    · exact absurd h0 hm
    · have hr := run_append_nil (P := P) w t ty e info z hd hi1 hi2 ad m c news (by rw [hi4]; exact hs.len) hc (by omega) (by omega) (by rw [hi5]; omega)
      refine ⟨_, _, hr, newP_ok hn hnt r h rfl rfl rfl rfl rfl (fun g' _ hv => ?_) (fun g' hv => .own hv)⟩
      have hcap := grownCap_ge w m 0 e
      have hcapm := grownCap_le_maxLen w m 0 e (by simp only [maxLen]; omega)
      have hrow : RowR F (w.drew.alloc (.cells (news.toArray ++ Builtin.zeroCells z.cells (grownCap w m 0 e - m)) e)) j.size m f ((news.toArray ++ Builtin.zeroCells z.cells (grownCap w m 0 e - m))[·]?) :=
        hs.row.mono (fun b hb => ⟨hb, heap_alloc_old w.drew _ (r.w.f1 b hb).1⟩) (fun k hk => by
          rw [Array.getElem?_append_left (by simp; rw [hs.len]; exact hk)]; simp)
      refine hrow.obj hv (heap_alloc_new w.drew _) hcap hcapm ?_
      simp only [Array.size_append, List.size_toArray, hs.len, size_zeroCells, hi3, hz, ← Nat.add_mul]
      congr 1; omega

/-- a row of our own grows -/
theorem append_own_ok {I : Inf} (hn : E.N = I.N) (hnt : E.nt = I.nt) (r : RelG E F g st a w) {t e : TypeId} {j : TInf} (hd : P.underlying t = some (.slice e)) (hj : TOk P e j) (ty : TypeId) {d m n o : Nat}
    (hb : 1 ≤ j.bytes) (hz : j.zero.length = j.size) {f1 f : Nat → List T} {s v : Value} (hv : VR F g w (.own o) s) {news : List Value} (hs : Src F w j.size m f v news)
    (hC : (n + m) * j.bytes ≤ 140737488355328) {st1 st' : St} (hl : look st.hp o = some (.arr e j.size n f1)) (he : st.erase o = some st1)
    (h : newP I st1 d (.arr e j.size (n + m) (appF n f1 f)) (.own d) = some st') : ∃ u w', (Builtin.append_ #[t, t] ty #[s, v]).run P w = .ok u w' ∧ Rel E st' (a.put (some d) u) w' := by
  obtain ⟨info, z, hi1, hi2, hi3, _⟩ := zero_ok (F := F) (g := g) (w := w) hj
  obtain ⟨info', hi1', hi4, hi5, _⟩ := hj.info
  rw [hi1] at hi1'; cases hi1'
  have hm63 : n + m ≤ 140737488355328 := Nat.le_trans (Nat.le_mul_of_pos_right (n + m) hb) hC
  have hlm := look_mem hl
  have hob := r.w.hp.obj _ _ hlm
  -- the state without o
  have r1 : RelG E F g st1 a w := ⟨r.nt, r.df, fun t y hy => r.fr t y (St.erase_fr he t y hy).1, ⟨⟨fun k y hy => by
      obtain ⟨x, h1, _, _, h4⟩ := St.erase_hp he k y hy; exact h4 _ _ _ (r.w.hp.obj k x h1), fun k y b hy hb => by
      obtain ⟨x, h1, _⟩ := St.erase_hp he k y hy; exact r.w.hp.own k x b h1 hb, fun k y k' y' b hy hy' hne hb hb' => by
      obtain ⟨x, h1, _⟩ := St.erase_hp he k y hy; obtain ⟨x', h1', _⟩ := St.erase_hp he k' y' hy'; exact r.w.hp.sep k x k' x' b h1 h1' hne hb hb'⟩,
      r.w.f0, r.w.f1, r.w.ext, r.w.names, r.w.b0⟩⟩
  cases hv with
  | own hg =>
    rcases hob with ⟨h1, h2⟩ | ⟨b, cap, cur, h1, h2, h3, h4, h5, h6, h7⟩
    · rw [h1] at hg; cases hg; subst h2
      have hf : newP I st1 d (.arr e j.size m (appF 0 f1 f)) (.own d) = some st' := by rw [Nat.zero_add] at h; exact h
      have hs' : Src F w j.size m (appF 0 f1 f) v news := by
        have : appF 0 f1 f = f := by funext i; simp [appF]
        rw [this]; exact hs
      exact append_nil_ok hn hnt r1 hd hj ty hb hz hs' (by simpa using hC) hf
    · rw [h1] at hg; injection hg with e1 e2 e3; subst e1; subst e2; subst e3
      have old : RowR F w j.size n f1 (cur[·]?) := ⟨h6, h7⟩
      have hFb : ¬ F b := (r.w.hp.own o _ b hlm (by rw [h1]; rfl)).1
      have hBb := (r.w.hp.own o _ b hlm (by rw [h1]; rfl)).2
      have hblt : b < w.heap.size := (Array.getElem?_eq_some_iff.1 h2).1
      by_cases hroom : n + m ≤ cap
      · -- in place
        have hfit : n * j.size + news.length ≤ cur.size := by rw [hs.len, h5, ← Nat.add_mul]; exact Nat.mul_le_mul_right _ hroom
        have hrun : (Builtin.append_ #[t, t] ty #[.slice (some ⟨b, 0, none⟩) n cap, v]).run P w =
            .ok (.slice (some ⟨b, 0, none⟩) (n + m) cap) (w.setRow b (cur.toList.take (n * j.size) ++ news ++ cur.toList.drop (n * j.size + news.length)).toArray) := by
          rcases hs.shape with ⟨c, rfl, h0⟩ | ⟨ad, c, rfl, hc⟩
          · subst h0
            have hn0 : news = [] := List.eq_nil_of_length_eq_zero (by simpa using hs.len)
            subst hn0
            simp only [List.append_nil, List.length_nil, Nat.add_zero, List.take_append_drop, Array.toArray_toList]
            have hself : w.setRow b cur = w := setRow_self w b cur e (0, 0) h2
            rw [hself]
            simp [Builtin.append_, run_underlying hd, sizeOf, typeInfo, hi1, Builtin.lenOf, Builtin.firstCells, storeCells, h3]
          · have := run_append_room (P := P) w t ty e info hd hi1 b n cap cur h2 ad m c news (by rw [hi4]; exact hs.len) hc hs.one hroom (by rw [hi4]; exact hfit)
            rw [hi4] at this; exact this
        have hoth : ∀ k, k ≠ b → (w.setRow b (cur.toList.take (n * j.size) ++ news ++ cur.toList.drop (n * j.size + news.length)).toArray).heap[k]? = w.heap[k]? := fun k hk => setRow_other w b k _ hk
        have hFo : ∀ k, F k → F k ∧ (w.setRow b (cur.toList.take (n * j.size) ++ news ++ cur.toList.drop (n * j.size + news.length)).toArray).heap[k]? = w.heap[k]? :=
          fun k hk => ⟨hk, hoth k (fun e => hFb (e ▸ hk))⟩
        refine ⟨_, _, hrun, ?_⟩
        unfold newP at h
        split at h
        · rename_i st2 g1 g2 g3
          cases h
          have hd' : d < E.nt := by rw [hnt]; simpa [Nat.blt_eq] using g1
          refine ⟨F, upd g d (.slice (some ⟨b, 0, none⟩) (n + m) cap), r1.putW hd' hFo (fun t y hy => ?_) ?_ (.own (upd_same ..))⟩
          · obtain ⟨e1, e2⟩ := St.erase_fr g3 t y hy
            exact ⟨e1, fun o ho => upd_other g _ (e2 o ho)⟩
          · have hne : ∀ k y, (k, y) ∈ st1.hp → k ≠ o := fun k y hy => by obtain ⟨_, _, h', _⟩ := St.erase_hp he k y hy; exact h'
            have hdis : ∀ k y b', (k, y) ∈ st1.hp → blk (g k) = some b' → b' ≠ b := by
              intro k y b' hy hb' heq
              subst heq
              obtain ⟨x, hx1, hx2, _⟩ := St.erase_hp he k y hy
              exact r.w.hp.sep k x o _ b' hx1 hlm hx2 hb' (by rw [h1]; rfl)
            refine ⟨HpR.change r1.w.hp g3 (fun o ho => upd_other g _ ho) hFo (fun _ h => h) (fun k y b' hk _ hb' => hoth b' (hdis k y b' hk hb')) ?_
              (fun b' hb' => ?_) (fun k y b' hk _ hb' hb'' => ?_), r.w.f0, fun k hk => ⟨by simpa using (r.w.f1 k hk).1, (r.w.f1 k hk).2⟩,
              r.w.ext.trans rfl rfl rfl (by simp) (fun k hk hB => hoth k (fun e => ?_)), fun k hk => ?_, r.w.b0⟩
            · refine RowR.obj (b := b) (cap := cap) (cur := (cur.toList.take (n * j.size) ++ news ++ cur.toList.drop (n * j.size + news.length)).toArray) ?_ (upd_same ..) (setRow_heap w b cur _ e _ h2) hroom h4 ?_
              · refine RowR.app (old.mono hFo (fun _ _ => rfl)) (hs.row.mono hFo (fun _ _ => rfl)) (fun k hk => ?_) (fun k hk => ?_)
                · have hk' : k < cur.size := by omega
                  simp only [List.getElem?_toArray, List.append_assoc]
                  rw [List.getElem?_append_left (by simp; omega), List.getElem?_take, if_pos hk]
                  simp
                · have hln := hs.len
                  simp only [List.getElem?_toArray, List.append_assoc]
                  rw [List.getElem?_append_right (by simp; omega)]
                  simp only [List.length_take, Array.length_toList]
                  rw [show n * j.size + k - min (n * j.size) cur.size = k by omega, List.getElem?_append_left (by omega)]
              · simp only [List.size_toArray, List.length_append, List.length_take, List.length_drop, Array.length_toList]
                omega
            · rw [upd_same] at hb'; simp [blk] at hb'; subst hb'
              exact ⟨hFb, hBb⟩
            · rw [upd_same] at hb''; simp [blk] at hb''; subst hb''
              exact hdis k y _ hk hb' rfl
            · subst e
              rcases hBb with hB' | hB'
              · exact hB hB'
              · omega
            · rw [upd_other g _ (fun e : k = d => nmem_ok g2 (hn ▸ e ▸ hk))]
              exact r.w.names k hk
        · cases h
      · -- a new row
        rcases hs.shape with ⟨c, rfl, h0⟩ | ⟨ad, c, rfl, hc⟩
        · omega
        · have hol : (cur.toList.take (n * j.size)).length = n * info.size := by
            rw [hi4]; simp only [List.length_take, Array.length_toList, h5]
            exact Nat.min_eq_left (Nat.mul_le_mul_right _ h3)
          have hr := run_append_grow (P := P) w t ty e info z hd hi1 hi2 ⟨b, 0, none⟩ n cap (cur.toList.take (n * j.size)) hol (fun k u hu => by
            rw [Addr.add_none, Nat.zero_add]
            rw [List.getElem?_take] at hu
            split at hu
            · simpa [World.cell?, h2] using hu
            · cases hu) ad m c news (by rw [hi4]; exact hs.len) hc (by omega) (by omega) (growslice_fits (by omega) (by rw [hi5]; exact hC))
          refine ⟨_, _, hr, newP_ok hn hnt r1 h rfl rfl rfl rfl rfl (fun g' _ hv => ?_) (fun g' hv => .own hv)⟩
          have hcap := grownCap_ge w (n + m) cap e
          have hcapm := grownCap_le_maxLen w (n + m) cap e (by simp only [maxLen]; omega)
          have hlen1 : (cur.toList.take (n * j.size)).length = n * j.size := by rw [hol, hi4]
          refine RowR.obj ?_ hv (heap_alloc_new w.drew _) hcap hcapm ?_
          · have hFF : ∀ b', F b' → F b' ∧ (w.drew.alloc (.cells ((cur.toList.take (n * j.size)).toArray ++ news.toArray ++ Builtin.zeroCells z.cells (grownCap w (n + m) cap e - (n + m))) e)).heap[b']? = w.heap[b']? :=
              fun b' hb' => ⟨hb', heap_alloc_old w.drew _ (r.w.f1 b' hb').1⟩
            refine RowR.app (old.mono hFF (fun _ _ => rfl)) (hs.row.mono hFF (fun _ _ => rfl)) (fun k hk => ?_) (fun k hk => ?_)
            · have hk' : k < cur.size := by rw [h5]; exact Nat.lt_of_lt_of_le hk (Nat.mul_le_mul_right _ h3)
              rw [Array.append_assoc, Array.getElem?_append_left (by simp; omega)]
              simp only [List.getElem?_toArray, List.getElem?_take, if_pos hk]
              simp
            · have hln := hs.len
              rw [Array.append_assoc, Array.getElem?_append_right (by simp; omega)]
              simp only [List.size_toArray, hlen1]
              rw [show n * j.size + k - n * j.size = k by omega, Array.getElem?_append_left (by simp; omega)]
              simp
          · simp only [Array.size_append, List.size_toArray, hlen1, hs.len, size_zeroCells, hi3, hz, ← Nat.add_mul]
            congr 1; omega

end
end Go.PL
