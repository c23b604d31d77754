/-
  Soundness of the operations that make or write memory. Own work.
-/
import Derived.Test.YtlhmdnniolhnjaaPh
namespace Go.PL
open Go

section
variable {P : Program} {E : Env} {F : Nat → Prop} {g : Nat → Value} {st : St} {a : Act} {w : World}

theorem VR.one {x : PV} {v : Value} (h : VR F g w x v) (ho : x.one = true) : v.oneCell' = true := by
  cases h with
  | t r =>
    cases r with
    | agg hs hr => simp [PV.one] at ho
    | _ => rfl
  | tup hs hr => simp [PV.one] at ho
  | agg hs hr => simp [PV.one] at ho
  | any h => simp [PV.one] at ho
  | lit h => cases v <;> first | rfl | (simp [PV.one] at ho)
  | _ => rfl

theorem run_zeroValue {t : TypeId} {info : TypeInfo} {z : Value} (h : P.info? t = some info) (hz : info.zero = some z) : (zeroValue t).run P w = .ok z w := by
  simp [zeroValue, typeInfo, h, hz]

theorem alloc_ok {I : Inf} (hI : TIok P I.ti) (hn : E.N = I.N) (hnt : E.nt = I.nt) (r : RelG E F g st a w) {e : TypeId} {d : Nat} {i : TInf} (hi : I.ti e = some i) {st' : St}
    (h : newP I st d (.box i.zero) (.ptr d 0) = some st') : ∃ v w', (Instr.alloc e true (.tuple #[])).run P w = .ok v w' ∧ Rel E st' (a.put (some d) v) w' := by
  obtain ⟨info, z, h1, h2, h3, _⟩ := zero_ok (F := F) (g := g) (w := w) (hI _ _ hi)
  refine ⟨.pointer (some ⟨w.heap.size, 0, none⟩), w.alloc (.cells z.cells e), ?_, ?_⟩
  · simp [Instr.alloc, run_zeroValue h1 h2, newVar, newRow]
  · refine newP_ok hn hnt r h rfl rfl rfl rfl rfl (fun g' _ hv => ⟨w.heap.size, z.cells, e, hv, heap_alloc_new w _, h3, fun j x v hx hv' => ?_⟩) (fun g' hv => .ptr hv)
    obtain ⟨info', z', h1', h2', h3', h4'⟩ := zero_ok (F := F) (g := g') (w := w.alloc (.cells z.cells e)) (hI _ _ hi)
    rw [h1] at h1'; cases h1'
    rw [h2] at h2'; cases h2'
    exact h4' j x v hx hv'

theorem box_ok {I : Inf} (hn : E.N = I.N) (hnt : E.nt = I.nt) (r : RelG E F g st a w) {e : TypeId} {d : Nat} {p : PV} {v : Value} (hv : VR F g w p v) (hm : noMention d p.cells = true) {st' : St}
    (h : newP I st d (.box p.cells) (.ptr d 0) = some st') : ∃ u w', (Instr.box e v).run P w = .ok u w' ∧ Rel E st' (a.put (some d) u) w' := by
  refine ⟨.pointer (some ⟨w.heap.size, 0, none⟩), w.alloc (.cells v.cells e), ?_, ?_⟩
  · simp [Instr.box, newVar, newRow]
  · obtain ⟨h1, h2⟩ := hv.cells
    refine newP_ok hn hnt r h rfl rfl rfl rfl rfl (fun g' hg' hv' => ⟨w.heap.size, v.cells, e, hv', heap_alloc_new w _, h1, fun j x u hx hu => ?_⟩) (fun g' hv => .ptr hv)
    refine (h2 j x u hx hu).mono (fun b hb => ⟨hb, heap_alloc_old w _ (r.w.f1 b hb).1⟩) (fun o ho => hg' o ?_)
    exact noMention_ok hm x (List.mem_of_getElem? hx) o ho

structure RowR (F : Nat → Prop) (w : World) (s n : Nat) (f : Nat → List T) (get : Nat → Option Value) : Prop where
  len : ∀ i, i < n → (f i).length = s
  get : ∀ (i j : Nat) x, i < n → (f i)[j]? = some x → ∃ v, get (i * s + j) = some v ∧ Rd F w x v

theorem RowR.app {s n m : Nat} {f1 f2 : Nat → List T} {g1 g2 g3 : Nat → Option Value} (h1 : RowR F w s n f1 g1) (h2 : RowR F w s m f2 g2)
    (e1 : ∀ k, k < n * s → g3 k = g1 k) (e2 : ∀ k, k < m * s → g3 (n * s + k) = g2 k) : RowR F w s (n + m) (appF n f1 f2) g3 where
  len := by
    intro i hi
    unfold appF
    split
    · exact h1.len i ‹_›
    · exact h2.len _ (by omega)
  get := by
    intro i j x hi hx
    unfold appF at hx
    split at hx
    · rename_i hlt
      obtain ⟨v, hv, hr⟩ := h1.get i j x hlt hx
      have hj : j < s := by rw [← h1.len i hlt]; exact (List.getElem?_eq_some_iff.1 hx).1
      refine ⟨v, ?_, hr⟩
      rw [e1]
      · exact hv
      · calc i * s + j < i * s + s := by omega
          _ = (i + 1) * s := by rw [Nat.add_mul, Nat.one_mul]
          _ ≤ n * s := Nat.mul_le_mul_right _ hlt
    · rename_i hge
      have hlt : i - n < m := by omega
      obtain ⟨v, hv, hr⟩ := h2.get (i - n) j x hlt hx
      have hj : j < s := by rw [← h2.len _ hlt]; exact (List.getElem?_eq_some_iff.1 hx).1
      refine ⟨v, ?_, hr⟩
      have e : i * s + j = n * s + ((i - n) * s + j) := by
        rw [← Nat.add_assoc, ← Nat.add_mul, show n + (i - n) = i by omega]
      rw [e, e2]
      · exact hv
      · calc (i - n) * s + j < (i - n) * s + s := by omega
          _ = (i - n + 1) * s := by rw [Nat.add_mul, Nat.one_mul]
          _ ≤ m * s := Nat.mul_le_mul_right _ hlt

theorem RowR.mono {F' : Nat → Prop} {w' : World} {s n : Nat} {f : Nat → List T} {get get' : Nat → Option Value} (h : RowR F w s n f get) (hF : ∀ b, F b → F' b ∧ w'.heap[b]? = w.heap[b]?)
    (e : ∀ k, k < n * s → get' k = get k) : RowR F' w' s n f get' where
  len := h.len
  get := by
    intro i j x hi hx
    obtain ⟨v, hv, hr⟩ := h.get i j x hi hx
    have hj : j < s := by rw [← h.len i hi]; exact (List.getElem?_eq_some_iff.1 hx).1
    refine ⟨v, ?_, hr.mono hF⟩
    rw [e]
    · exact hv
    · calc i * s + j < i * s + s := by omega
        _ = (i + 1) * s := by rw [Nat.add_mul, Nat.one_mul]
        _ ≤ n * s := Nat.mul_le_mul_right _ hi

theorem RowR.nil {s : Nat} {f : Nat → List T} {get : Nat → Option Value} : RowR F w s 0 f get := ⟨fun _ h => absurd h (by omega), fun _ _ _ h => absurd h (by omega)⟩

/-- what is appended -/
structure Src (F : Nat → Prop) (w : World) (s m : Nat) (f : Nat → List T) (v : Value) (news : List Value) : Prop where
  shape : (∃ c, v = .slice none m c ∧ m = 0) ∨ ∃ ad c, v = .slice (some ad) m c ∧ ∀ (j : Nat) u, news[j]? = some u → w.cell? (ad.add j) = some u
  len : news.length = m * s
  row : RowR F w s m f (news[·]?)
  one : ∀ u, u ∈ news → u.oneCell' = true

theorem src_of {s m : Nat} (hs : 1 ≤ s) {f : Nat → List T} {v : Value} (ad : Addr) (c : Nat) (hv : v = .slice (some ad) m c) (ho : ∀ i, i < m → okCells s (f i) = true)
    (h : ∀ (i j : Nat) x, i < m → (f i)[j]? = some x → ∃ u, w.cell? (ad.add (i * s + j)) = some u ∧ Rd F w x u) : ∃ news, Src F w s m f v news := by
  have hlen : ∀ i, i < m → (f i).length = s := fun i hi => by
    have := ho i hi
    simp only [okCells, Bool.and_eq_true] at this
    exact Nat.eq_of_beq_eq_true this.1
  have hcell : ∀ k, k < m * s → ∃ u, w.cell? (ad.add k) = some u ∧ u.oneCell' = true := by
    intro k hk
    have hi : k / s < m := Nat.div_lt_of_lt_mul (by rw [Nat.mul_comm]; exact hk)
    have hj : k % s < (f (k / s)).length := by rw [hlen _ hi]; exact Nat.mod_lt _ (by omega)
    obtain ⟨u, hu, hr⟩ := h (k / s) (k % s) _ hi (List.getElem?_eq_getElem hj)
    refine ⟨u, ?_, ?_⟩
    · rw [Nat.mul_comm, Nat.div_add_mod] at hu; exact hu
    · have := ho _ hi
      simp only [okCells, Bool.and_eq_true, List.all_eq_true] at this
      exact (VR.t (g := g0) hr).one (this.2 _ (List.getElem_mem hj))
  have hget : ∀ k, k < m * s → ((List.range (m * s)).map fun k => (w.cell? (ad.add k)).getD undef)[k]? = w.cell? (ad.add k) := by
    intro k hk
    obtain ⟨u, hu, _⟩ := hcell k hk
    simp [hk, hu]
  refine ⟨(List.range (m * s)).map fun k => (w.cell? (ad.add k)).getD undef, .inr ⟨ad, c, hv, fun j u hu => ?_⟩, by simp, ⟨hlen, fun i j x hi hx => ?_⟩, fun u hu => ?_⟩
  · have hj : j < m * s := by have := (List.getElem?_eq_some_iff.1 hu).1; simpa using this
    rw [hget j hj] at hu; exact hu
  · obtain ⟨u, hu, hr⟩ := h i j x hi hx
    have hj : j < s := by rw [← hlen i hi]; exact (List.getElem?_eq_some_iff.1 hx).1
    refine ⟨u, ?_, hr⟩
    rw [hget _ (by
      calc i * s + j < i * s + s := by omega
        _ = (i + 1) * s := by rw [Nat.add_mul, Nat.one_mul]
        _ ≤ m * s := Nat.mul_le_mul_right _ hi)]
    exact hu
  · simp only [List.mem_map, List.mem_range] at hu
    obtain ⟨k, hk, rfl⟩ := hu
    obtain ⟨u, hu, h1⟩ := hcell k hk
    rw [hu]; exact h1
where g0 : Nat → Value := fun _ => undef

theorem appArg_ok (r : RelG E F g st a w) {q : PV} {v : Value} (hv : VR F g w q v) {m s : Nat} {f : Nat → List T} {s2 : Option Nat} (h : appArg st q = some (m, f, s2)) (hs : 1 ≤ s)
    (hs2 : okS s s2 = true) (ho : ∀ i, i < m → okCells s (f i) = true) : ∃ news, Src F w s m f v news := by
  have hlen : ∀ i, i < m → (f i).length = s := fun i hi => by
    have := ho i hi
    simp only [okCells, Bool.and_eq_true] at this
    exact Nat.eq_of_beq_eq_true this.1
  cases q with
  | own o =>
    simp only [appArg] at h
    split at h
    · rename_i e s' n f' hl
      cases h
      have hs' : s' = s := Nat.eq_of_beq_eq_true hs2
      subst hs'
      have hob := r.w.hp.obj _ _ (look_mem hl)
      cases hv with
      | own hg =>
        rcases hob with ⟨h1, h2⟩ | ⟨b, cap, cur, h1, h2, h3, h4, h5, h6, h7⟩
        · rw [hg] at h1; injection h1 with h1 h3 h4
          subst h2
          exact ⟨[], .inl ⟨0, by rw [h1, h3, h4], rfl⟩, by simp, RowR.nil, by simp⟩
        · rw [hg] at h1; injection h1 with h1 h8 h9
          refine src_of hs ⟨b, 0, none⟩ cap (by rw [h1, h8, h9]) ho (fun i j x hi hx => ?_)
          obtain ⟨u, hu, hr⟩ := h7 i j x hi hx
          refine ⟨u, ?_, hr⟩
          rw [Addr.add_none]
          simpa [World.cell?, h2] using hu
    · cases h
  | t x =>
    simp only [appArg] at h
    split at h
    · rename_i n f' hx
      cases h
      cases hv.cells_t rfl with
      | nil h => rw [hx] at h; simp at h; obtain ⟨rfl, rfl⟩ := h; exact ⟨[], .inl ⟨_, rfl, rfl⟩, by simp, RowR.nil, by simp⟩
      | sl ad cap size vs h hc hF hs' hv' hr' =>
        rw [hx] at h; simp at h; obtain ⟨rfl, rfl⟩ := h
        refine src_of hs ad cap rfl ho (fun i j x hi hx => ?_)
        have hsz : size = s := by rw [← hs' i hi, hlen i hi]
        have hj : j < size := by rw [← hs' i hi]; exact (List.getElem?_eq_some_iff.1 hx).1
        refine ⟨_, by rw [← hsz]; exact hv' i j hi hj, hr' i j x hi hx⟩
      | int => simp [T.view] at hx
      | bool => simp [T.view] at hx
      | str => simp [T.view] at hx
      | agg => simp [T.view] at hx
    · cases h
  | _ => simp [appArg] at h

end
end Go.PL
