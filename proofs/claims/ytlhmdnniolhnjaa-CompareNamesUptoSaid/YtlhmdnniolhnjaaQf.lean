/-
  The checks on programs: that they come to something, and what they tell. Own work.
-/
import Derived.Test.YtlhmdnniolhnjaaQe
import Derived.Test.YtlhmdnniolhnjaaGc
namespace Go.PL
open Go

theorem G78_ok (fs : List GFunc) (c p : List Int) {e : Expr} (h : okW e) : Sp (G78 fs c p e) (fun r => r.2 = true → CallsOk fs.length e) := by
  unfold G78
  obtain ⟨n, -, hn⟩ := G86_G29 h
  rw [hn]
  simp only [Option.bind_some]
  refine Sp.iteD (fun _ => Sp.ret (by simp)) (fun _ => ?_)
  refine Sp.bind _ (G87_ok fs c p h) (fun r hr => ?_)
  obtain ⟨t, b⟩ := r
  cases b with
  | false => exact Sp.ret (by simp)
  | true => exact Sp.ret (fun _ => hr rfl)

theorem bind_tt {α : Type} {x : Option α} (h : Sp x fun _ => True) {β : Type} {f : α → Option β} (h' : ∀ y, Sp (f y) fun _ => True) : Sp (Option.bind x f) fun _ => True := Sp.bind _ h fun y _ => h' y

theorem G55_in (fs : List GFunc) (i : Nat) (hp : (fs.getD i default).Params.length ≤ 9223372036854775806) :
    Sp (whileM (G55_L1 fs i) 0) (fun R => match R with | .inl x => x = ((fs.getD i default).Name, (fs.getD i default).Params, (fs.getD i default).Result, ((fs.getD i default).Body).Op, ((fs.getD i default).Body).N, ((fs.getD i default).Body).S, ((fs.getD i default).Body).Args, (i : Int)) | .inr y => y = false) := by
  refine Sp.count0 (fs.getD i default).Params.length _ hp (fun k hk => ?_)
  rw [G55_L1]
  simp only [Int.toNat_natCast]
  refine Sp.iteD (fun hlt => ?_) (fun _ => Sp.ret rfl)
  refine Sp.guard (by omega) ?_
  rw [G77_ok]
  simp only [Option.bind_some]
  refine Sp.iteB (fun _ => Sp.ret rfl) (fun _ => Sp.ret ⟨by omega, rfl⟩)

theorem okFunc.w {f : GFunc} (h : okGFunc f) : okW f.Body := h.2.2.2.w

theorem G55_ok {fs : List GFunc} (h : okL 104 okGFunc fs) : Sp (G55 fs) (fun r => r = true → fs.length ≤ 20 ∧ ∀ i, i < fs.length → CallsOk i (fs.getD i default).Body) := by
  unfold G55
  have hn := h.len
  refine Sp.bind (fun R => match R with | .inl _ => fs.length ≤ 20 → ∀ i, i < fs.length → CallsOk i (fs.getD i default).Body | .inr y => y = false) ?_ (fun R hR => ?_)
  · refine Sp.count (fun s => s) fs.length (fun s => ∀ i : Nat, (i : Int) < s → CallsOk i (fs.getD i default).Body) _ (by omega) (fun s hs h0 h1 => ?_) 0 (by intro i hi; omega) (Int.le_refl _) (by omega)
    obtain ⟨k, rfl⟩ := Int.eq_ofNat_of_zero_le h0
    rw [G55_L0]
    refine Sp.bind (fun j => j = (decide ((k : Int) < fs.length) && decide ((k : Int) ≤ 20))) ?_ (fun j hj => ?_)
    · refine Sp.iteD (fun h => Sp.ret (by simp; omega)) (fun h => Sp.ret (by simp; omega))
    refine Sp.iteB (fun hjt => ?_) (fun hjf => Sp.ret ?_)
    · rw [hjt] at hj
      simp at hj
      obtain ⟨hk1, hk2⟩ := hj
      have hf := h.2 _ (getD_mem (show k < fs.length by omega))
      refine Sp.guard (by omega) ?_
      refine Sp.bind _ (G55_in fs k (by have := hf.2.1.len; omega)) (fun R hR => ?_)
      cases R with
      | inr y => exact Sp.ret hR
      | inl x =>
        simp only at hR
        subst hR
        refine Sp.guard (by omega) ?_
        simp only [Int.toNat_zero, Int.sub_zero, Int.toNat_natCast, List.drop_zero, Expr.eta]
        refine Sp.bind _ (G78_ok (fs.take k) [] _ hf.2.2.2.w) (fun r hr => ?_)
        refine Sp.bind (fun j => j = false → r.2 = true) ?_ (fun j hj => ?_)
        · obtain ⟨t, b⟩ := r
          cases b with
          | false => exact Sp.ret (by simp)
          | true => exact Sp.ite (fun _ => Sp.ret (fun _ => rfl)) (fun _ => Sp.ite (fun _ => Sp.ret (fun _ => rfl)) (fun _ => Sp.ret (fun _ => rfl)))
        refine Sp.iteB (fun _ => Sp.ret rfl) (fun hjf => Sp.ret ⟨by omega, rfl, fun i hi => ?_⟩)
        rw [wrap_id (by omega) (by omega)] at hi
        by_cases hik : i = k
        · subst hik
          have := hr (hj hjf)
          rwa [List.length_take, Nat.min_eq_left (by omega)] at this
        · exact hs i (by omega)
    · intro hle i hi
      rw [hjf] at hj
      simp at hj
      exact hs i (by omega)
  · cases R with
    | inl x => exact Sp.ret (fun hd => by have hd' : fs.length ≤ 20 := by have := of_decide_eq_true hd; omega
                                          exact ⟨hd', hR hd'⟩)
    | inr y => exact Sp.ret (by simp only at hR; simp [hR])

theorem G82_ok {fs : List GFunc} (h : okL 104 okGFunc fs) (c p : List Int) {e : Expr} (he : okW e) : Sp (G82 fs c p e) (fun r => r.2 = true → CallsOk fs.length e) := by
  unfold G82
  refine Sp.bind _ (G55_ok h) (fun b _ => ?_)
  refine Sp.iteB (fun _ => Sp.ret (by simp)) (fun _ => ?_)
  exact Sp.bind _ (G78_ok fs c p he) (fun r hr => Sp.ret hr)
theorem G81_ok {fs : List GFunc} (h : okL 104 okGFunc fs) (c : List Int) {e : Expr} (he : okW e) : Sp (G81 fs c e) (fun r => r = true → CallsOk fs.length e) := by
  unfold G81
  refine Sp.bind _ (G82_ok h c [] he) (fun r hr => ?_)
  refine Sp.bind (fun j => j = true → CallsOk fs.length e) ?_ (fun j hj => Sp.ret hj)
  exact Sp.iteB (fun h => Sp.ret (fun _ => hr h)) (fun _ => Sp.ret (by simp))

theorem equalI {l r : List Int} {L : Int → Option (Int ⊕ (Unit ⊕ Bool))} (hN : l.length ≤ 9223372036854775806)
    (hL : ∀ v2, L v2 = if (decide (v2 < ((l.length : Int)))) = true then (if 0 ≤ v2 ∧ v2 < (l.length : Int) then (if 0 ≤ v2 ∧ v2 < (r.length : Int) then (if ((l.getD (v2).toNat default) != (r.getD (v2).toNat default)) = true then (some (.inr (.inr (false)))) else (some (.inl (IntKind.i64.wrap (v2 + 1))))) else none) else none) else (some (.inr (.inl (()))))) :
    (if (((l.length : Int)) != ((r.length : Int))) = true then (some (false)) else (Option.bind (whileM L (0)) fun R7 => match R7 with | .inl (_) => (some (true)) | .inr (y9) => (some (y9)))) = some (all2 (fun x y => x == y) l r) := by
  unfold all2
  by_cases hl : l.length = r.length
  · rw [if_neg (by simp [hl])]
    have := while_all (R := Bool) l.length (b := L) (fun i => l.getD i default == r.getD i default) false hN (fun i hi => ?_) ?_
    · rw [this]
      simp only [hl, decide_true, Bool.true_and, Option.bind_some]
      cases (List.range r.length).all fun i => l.getD i default == r.getD i default <;> rfl
    · rw [hL, if_pos (by simpa using hi), if_pos (by constructor <;> omega), if_pos (by constructor <;> omega)]
      simp only [Int.toNat_natCast]
      by_cases hx : l.getD i default = r.getD i default
      · rw [if_neg (by simpa using hx)]
        have : (l.getD i default == r.getD i default) = true := by simpa using hx
        rw [this]
      · rw [if_pos (by simpa using hx)]
        have : (l.getD i default == r.getD i default) = false := by simpa using hx
        rw [this]
    · rw [hL, if_neg (by simp)]
  · rw [if_pos (by simp; omega)]
    simp [hl]
theorem G36_ok {l r : List Int} (hN : l.length ≤ 9223372036854775806) : G36 l r = some (all2 (fun x y => x == y) l r) := by
  rw [G36]; exact equalI hN (fun v => by rw [G36_L0])
theorem G33_ok {l r : List Int} (hN : l.length ≤ 9223372036854775806) : G33 l r = some (all2 (fun x y => x == y) l r) := by
  rw [G33]; exact equalI hN (fun v => by rw [G33_L0])

theorem G37_len {l : List GCol} (hl : l.length ≤ 1048576) : Sp (G37 l) (fun r => r.length = l.length) := by
  unfold G37
  refine Sp.bind (fun r => r.length = l.length) ?_ (fun r hr => Sp.ret hr)
  refine Sp.count (fun s => s.2) l.length (fun s => (s.1.length : Int) = s.2) _ (by omega) (fun s hs h0 h1 => ?_) ([], 0) rfl (Int.le_refl _) (by simp)
  obtain ⟨v1, v2⟩ := s
  simp only at hs h0 h1
  subst hs
  rw [G37_L0]
  refine Sp.iteD (fun hlt => ?_) (fun _ => Sp.ret (by omega))
  refine Sp.guard (by omega) (Sp.guard (by omega) (Sp.ret ⟨hlt, rfl, ?_⟩))
  rw [wrap_id (by omega) (by omega)]; simp

theorem G37_ok {l : List GCol} (h : okL 40 okGCol l) : Sp (G37 l) (fun r => r.length = l.length) := G37_len h.len

theorem G79_tot (s : ByteArray) (hs : okStr s) : Sp (G79 s) (fun _ => True) := by
  unfold G79
  have hs' : s.size ≤ 9223372036854775806 := by have := hs; unfold okStr at this; omega
  have h1 : 0 < s.size ∨ s.size = 0 := by omega
  refine Sp.bind (fun _ => True) ?_ (fun _ _ => ?_)
  · by_cases hz : (s.toList == (⟨#[]⟩ : ByteArray).toList) = true
    · rw [if_pos hz]; exact Sp.triv
    · rw [if_neg hz]
      have hpos : 0 < s.size := by
        rcases h1 with h | h
        · exact h
        · exfalso; apply hz
          have : s = ⟨#[]⟩ := by
            cases s with | mk a => cases a with | mk l => simp [ByteArray.size] at h; subst h; rfl
          rw [this]; simp
      repeat' (first | with_reducible exact Sp.triv | with_reducible refine Sp.guard (by omega) ?_ | with_reducible refine Sp.iteD (fun _ => ?_) (fun _ => ?_) | with_reducible refine Sp.iteN (fun _ => ?_) (fun _ => ?_) | with_reducible refine Sp.iteE (fun _ => ?_) (fun _ => ?_) | with_reducible refine Sp.iteB (fun _ => ?_) (fun _ => ?_) | with_reducible refine Sp.bind (fun _ => True) ?_ (fun _ _ => ?_))
  · refine Sp.iteB (fun _ => Sp.triv) (fun _ => ?_)
    refine Sp.bind (fun _ => True) (Sp.count0 s.size _ hs' (fun i hi => ?_)) (fun R _ => by cases R <;> exact Sp.triv)
    rw [G79_L0]
    refine Sp.iteD (fun hlt => Sp.guard (by omega) ?_) (fun _ => Sp.ret trivial)
    refine Sp.bind (fun _ => True) ?_ (fun _ _ => Sp.iteB (fun _ => Sp.ret trivial) (fun _ => Sp.ret ⟨by omega, rfl⟩))
    repeat' (first | with_reducible exact Sp.triv | with_reducible refine Sp.guard (by omega) ?_ | with_reducible refine Sp.iteD (fun _ => ?_) (fun _ => ?_) | with_reducible refine Sp.iteN (fun _ => ?_) (fun _ => ?_) | with_reducible refine Sp.iteE (fun _ => ?_) (fun _ => ?_) | with_reducible refine Sp.iteB (fun _ => ?_) (fun _ => ?_) | with_reducible refine Sp.bind (fun _ => True) ?_ (fun _ _ => ?_))

theorem G90_ok (n : Int) : Sp (G90 n) (fun _ => True) := by
  unfold G90
  repeat' (first | with_reducible exact Sp.triv | with_reducible refine Sp.guard (by omega) ?_ | with_reducible refine Sp.iteD (fun _ => ?_) (fun _ => ?_) | with_reducible refine Sp.iteN (fun _ => ?_) (fun _ => ?_) | with_reducible refine Sp.iteE (fun _ => ?_) (fun _ => ?_) | with_reducible refine Sp.iteB (fun _ => ?_) (fun _ => ?_) | with_reducible refine Sp.bind (fun _ => True) ?_ (fun _ _ => ?_))
theorem G97_tot (s : ByteArray) : Sp (G97 s) (fun _ => True) := by
  unfold G97
  refine Sp.bind (fun _ => True) (Sp.count0 3 _ (by omega) (fun i hi => ?_)) (fun R _ => by cases R <;> exact Sp.triv)
  rw [G97_L0]
  refine Sp.iteD (fun hlt => ?_) (fun _ => Sp.ret trivial)
  refine Sp.bind _ (G90_ok _) (fun _ _ => ?_)
  exact Sp.ite (fun _ => Sp.ret trivial) (fun _ => Sp.ret ⟨by omega, rfl⟩)
theorem G88_tot (s : ByteArray) (hs : okStr s) : Sp (G88 s) (fun _ => True) := by
  unfold G88
  repeat' (first | with_reducible exact G97_tot _ | with_reducible exact G79_tot _ hs | with_reducible exact Sp.triv | with_reducible refine Sp.guard (by omega) ?_ | with_reducible refine Sp.iteD (fun _ => ?_) (fun _ => ?_) | with_reducible refine Sp.iteN (fun _ => ?_) (fun _ => ?_) | with_reducible refine Sp.iteE (fun _ => ?_) (fun _ => ?_) | with_reducible refine Sp.iteB (fun _ => ?_) (fun _ => ?_) | with_reducible refine Sp.bind (fun _ => True) ?_ (fun _ _ => ?_))
theorem G89_tot {l : List GCol} (h : okL 40 okGCol l) (s : ByteArray) : Sp (G89 l s) (fun _ => True) := by
  have hl := h.len
  unfold G89
  refine Sp.bind (fun _ => True) (Sp.count0 l.length _ (by omega) (fun i hi => ?_)) (fun R _ => by cases R <;> exact Sp.triv)
  rw [G89_L0]
  refine Sp.iteD (fun hlt => ?_) (fun _ => Sp.ret trivial)
  refine Sp.guard (by omega) ?_
  exact Sp.ite (fun _ => Sp.ret trivial) (fun _ => Sp.ret ⟨by omega, rfl⟩)
theorem G80_tot {l : List GCol} (h : okL 40 okGCol l) : Sp (G80 l) (fun r => r = true → l.length ≤ 12) := by
  have hl := h.len
  unfold G80
  refine Sp.bind (fun R => match R with | .inl _ => True | .inr y => y = false) (Sp.count0 l.length _ (by omega) (fun i hi => ?_)) (fun R hR => ?_)
  · rw [G80_L0]
    refine Sp.iteD (fun hlt => ?_) (fun _ => Sp.ret trivial)
    refine Sp.guard (by omega) ?_
    have hc := h.2 _ (getD_mem (show i < l.length by omega))
    have hcn : okStr (l.getD i default).Name := hc.1
    have hcu : okStr (l.getD i default).Unit := hc.2.2
    simp only [Int.toNat_natCast]
    refine Sp.bind (fun _ => True) ?_ (fun _ _ => Sp.iteB (fun _ => Sp.ret rfl) (fun _ => ?_))
    · repeat' (first | with_reducible exact G88_tot _ hcn | with_reducible exact G89_tot h _ | with_reducible exact G90_ok _ | with_reducible exact Sp.triv | with_reducible refine Sp.guard (by omega) ?_ | with_reducible refine Sp.iteD (fun _ => ?_) (fun _ => ?_) | with_reducible refine Sp.iteN (fun _ => ?_) (fun _ => ?_) | with_reducible refine Sp.iteE (fun _ => ?_) (fun _ => ?_) | with_reducible refine Sp.iteB (fun _ => ?_) (fun _ => ?_) | with_reducible refine Sp.bind (fun _ => True) ?_ (fun _ _ => ?_))
    refine Sp.bind (fun _ => True) ?_ (fun _ _ => Sp.iteB (fun _ => Sp.ret rfl) (fun _ => Sp.ret ⟨by omega, rfl⟩))
    repeat' (first | with_reducible exact G88_tot _ hcu | with_reducible exact Sp.triv | with_reducible refine Sp.guard (by omega) ?_ | with_reducible refine Sp.iteD (fun _ => ?_) (fun _ => ?_) | with_reducible refine Sp.iteN (fun _ => ?_) (fun _ => ?_) | with_reducible refine Sp.iteE (fun _ => ?_) (fun _ => ?_) | with_reducible refine Sp.iteB (fun _ => ?_) (fun _ => ?_) | with_reducible refine Sp.bind (fun _ => True) ?_ (fun _ _ => ?_))
  · cases R with
    | inr y => exact Sp.ret (by simp only at hR; simp [hR])
    | inl x =>
      refine Sp.bind (fun j => j = true → l.length ≤ 12) ?_ (fun j hj => Sp.ret hj)
      exact Sp.iteD (fun _ => Sp.ret (fun hd => by have := of_decide_eq_true hd; omega)) (fun _ => Sp.ret (by simp))
theorem G83_ok {l r : List Int} (hl : l.length ≤ 9223372036854775806) : Sp (G83 l r) (fun b => b = true → ∀ i, i < l.length → 0 ≤ l.getD i default ∧ l.getD i default < (r.length : Int)) := by
  unfold G83
  refine Sp.bind (fun R => match R with | .inl _ => ∀ i, i < l.length → 0 ≤ l.getD i default ∧ l.getD i default < (r.length : Int) | .inr y => y = false) ?_ (fun R hR => ?_)
  · refine Sp.count (fun s => s) l.length (fun s => ∀ i : Nat, (i : Int) < s → 0 ≤ l.getD i default ∧ l.getD i default < (r.length : Int)) _ (by omega) (fun s hs h0 h1 => ?_) 0 (by intro i hi; omega) (Int.le_refl _) (by omega)
    obtain ⟨k, rfl⟩ := Int.eq_ofNat_of_zero_le h0
    rw [G83_L0]
    refine Sp.iteD (fun hlt => ?_) (fun _ => Sp.ret (fun i hi => hs i (by omega)))
    simp only [Int.toNat_natCast]
    refine Sp.bind (fun j => j = false → 0 ≤ l.getD k default ∧ l.getD k default < (r.length : Int)) ?_ (fun j hj => Sp.iteB (fun _ => Sp.ret rfl) (fun hf => Sp.ret ⟨hlt, rfl, fun i hi => ?_⟩))
    · refine Sp.guard (by omega) (Sp.iteD (fun _ => Sp.ret (by simp)) (fun _ => Sp.guard (by omega) (Sp.ret (fun hd => ?_))))
      have := of_decide_eq_false hd
      omega
    · rw [wrap_id (by omega) (by omega)] at hi
      by_cases hik : i = k
      · subst hik; exact hj hf
      · exact hs i (by omega)
  · cases R with
    | inr y => exact Sp.ret (by simp only at hR; simp [hR])
    | inl x => exact Sp.ret (fun _ => hR)
theorem pick_ok {l r : List Int} {L : (List Int × Int) → Option ((List Int × Int) ⊕ List Int)} (hl : r.length ≤ 17592186043904) (hr : ∀ i, i < r.length → 0 ≤ r.getD i default ∧ r.getD i default < (l.length : Int))
    (hL : ∀ v1 v2, L (v1, v2) = if (decide (v2 < ((r.length : Int)))) = true then (if 0 ≤ v2 ∧ v2 < (r.length : Int) then (if 0 ≤ (r.getD (v2).toNat default) ∧ (r.getD (v2).toNat default) < (l.length : Int) then (if (v1.length + 1) * 8 ≤ 140737488355328 then (some (.inl ((v1 ++ ([l.getD (r.getD (v2).toNat default).toNat default]), IntKind.i64.wrap (v2 + 1))))) else none) else none) else none) else (some (.inr (v1)))) :
    Sp (Option.bind (whileM L ([], 0)) fun b3 => some b3) (fun x => x.length = r.length) := by
  refine Sp.bind (fun x => x.length = r.length) ?_ (fun r hr => Sp.ret hr)
  refine Sp.count (fun s => s.2) r.length (fun s => (s.1.length : Int) = s.2) _ (by omega) (fun s hs h0 h1 => ?_) ([], 0) rfl (Int.le_refl _) (by simp)
  obtain ⟨v1, v2⟩ := s
  simp only at hs h0 h1
  subst hs
  rw [hL]
  refine Sp.iteD (fun hlt => ?_) (fun _ => Sp.ret (by omega))
  refine Sp.guard (by omega) (Sp.guard ?_ (Sp.guard (by omega) (Sp.ret ⟨hlt, rfl, ?_⟩)))
  · have := hr v1.length (by omega)
    simpa using this
  · rw [wrap_id (by omega) (by omega)]; simp
theorem G84_ok {l r : List Int} (hl : r.length ≤ 17592186043904) (hr : ∀ i, i < r.length → 0 ≤ r.getD i default ∧ r.getD i default < (l.length : Int)) : Sp (G84 l r) (fun x => x.length = r.length) := by
  unfold G84; exact pick_ok hl hr (fun a b => by rw [G84_L0])
theorem G84s0_ok {l r : List Int} (hl : r.length ≤ 17592186043904) (hr : ∀ i, i < r.length → 0 ≤ r.getD i default ∧ r.getD i default < (l.length : Int)) : Sp (G84s0 l r) (fun x => x.length = r.length) := by
  unfold G84s0; exact pick_ok hl hr (fun a b => by rw [G84s0_L0])

theorem G59_d {n : Int} (h : 0 ≤ n ∧ n < 10) : Sp (G59 n) (fun r => r.size ≤ 1) := by
  rw [G59_eq]
  unfold G59_B
  simp only [show decide (n ≥ 0) = true from by simp; omega, if_true, Option.bind_some, show decide (n < 10) = true from by simp; omega]
  exact Sp.ret (by simp [bstr])
theorem G59_dd {n : Int} (h : 0 ≤ n ∧ n < 100) : Sp (G59 n) (fun r => r.size ≤ 2) := by
  by_cases h10 : n < 10
  · exact (G59_d ⟨h.1, h10⟩).imp' fun _ h => by omega
  rw [G59_eq]
  unfold G59_B
  simp only [show decide (n ≥ 0) = true from by simp; omega, if_true, Option.bind_some, show decide (n < 10) = false from by simp; omega, Bool.false_eq_true, if_false, show decide (n > 0) = true from by simp; omega]
  have e1 : Int.tdiv n 10 = n / 10 := Int.tdiv_eq_ediv_of_nonneg h.1
  have e2 : Int.tmod n 10 = n % 10 := Int.tmod_eq_emod_of_nonneg h.1
  rw [e1, e2, wrap_id (by omega) (by omega)]
  refine Sp.bind _ (G59_d (by omega)) (fun a ha => Sp.bind _ (G59_d (by omega)) (fun b hb => ?_))
  refine Sp.guard (by omega) (Sp.ret ?_)
  rw [ByteArray.size_append]; omega

end Go.PL
