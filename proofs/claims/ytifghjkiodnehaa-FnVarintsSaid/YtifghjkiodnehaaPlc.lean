/-
  Plain laws: what is encoded is read back; what is read is what would be encoded. No program is named. No condition.
-/
import Derived.Test.YtifghjkiodnehaaPlb
namespace Go.Proofs.Ytifghjkiodnehaa
set_option linter.unusedVariables false
open Go.RowKit

theorem ruF_uv {zs : List Int} : ∀ (f p : Nat) (n pw acc : Int), 0 ≤ n → n < 128 ^ (f + 1) → (∀ j, j < (uvF (f + 1) n).length → zs[p + j]? = (uvF (f + 1) n)[j]?) → acc + n * pw ≤ 1000000000000 → (pw = 1 ∨ 0 < n) →
    ruF zs (f + 1) p pw acc = some (acc + n * pw, ((p + (uvF (f + 1) n).length : Nat) : Int)) := by
  intro f
  induction f with
  | zero =>
    intro p n pw acc h0 h1 hz hb hp
    have hn : n < 128 := by simpa using h1
    have e : uvF (0 + 1) n = [n] := by simp [uvF, hn]
    rw [e] at hz ⊢
    have hq : zs[p]? = some n := by simpa using hz 0 (by simp)
    have hm : n % 128 = n := by omega
    rw [ruF_good hq hn (by rw [hm]; omega), hm]
    simp
  | succ f ih =>
    intro p n pw acc h0 h1 hz hb hp
    by_cases hn : n < 128
    · have e : uvF (f + 1 + 1) n = [n] := by simp [uvF, hn]
      rw [e] at hz ⊢
      have hq : zs[p]? = some n := by simpa using hz 0 (by simp)
      have hm : n % 128 = n := by omega
      rw [ruF_good hq hn (by rw [hm]; omega), hm]
      simp
    · have e : uvF (f + 1 + 1) n = (n % 128 + 128) :: uvF (f + 1) (n / 128) := by rw [uvF_succ, if_neg hn]
      rw [e] at hz ⊢
      have hq : zs[p]? = some (n % 128 + 128) := by simpa using hz 0 (by simp)
      have hm : (n % 128 + 128) % 128 = n % 128 := by omega
      have hs : acc + n % 128 * pw + n / 128 * (pw * 128) = acc + n * pw := by
        have h9 : n = n % 128 + n / 128 * 128 := by omega
        have h8 : n * pw = (n % 128 + n / 128 * 128) * pw := congrArg (· * pw) h9
        rw [h8, Int.add_mul, Int.mul_assoc (n / 128) 128 pw, Int.mul_comm 128 pw]
        omega
      have h2 : n / 128 < 128 ^ (f + 1) := by
        rw [Int.pow_succ] at h1
        omega
      rw [ruF_big hq (by omega), hm, ih (p + 1) (n / 128) (pw * 128) (acc + n % 128 * pw) (by omega) h2 ?_ (by omega) (.inr (by omega)), hs]
      · simp only [List.length_cons]
        congr 3
        omega
      · intro j hj
        have := hz (j + 1) (by simp; omega)
        rw [show p + 1 + j = p + (j + 1) by omega, this]
        simp
theorem readU_uv (b r : List Int) (n : Int) (h0 : 0 ≤ n) (h1 : n ≤ 1000000000000) : readU (b ++ (uv n ++ r)) (b.length : Int) = some (n, ((b.length + (uv n).length : Nat) : Int)) := by
  unfold readU
  rw [if_neg (by omega), show ((b.length : Nat) : Int).toNat = b.length by simp, ruF_uv 5 b.length n 1 0 h0 (by simp; omega) ?_ (by omega) (.inl rfl)]
  · simp [uv]
  · intro j hj
    have hj' : j < (uv n).length := hj
    rw [List.getElem?_append_right (by omega), show b.length + j - b.length = j by omega, List.getElem?_append_left hj']
    rfl

/-- what is read is the encoding of its number -/
theorem ruF_can {zs : List Int} (hz : ∀ z ∈ zs, 0 ≤ z ∧ z ≤ 255) : ∀ (f p : Nat) (pw acc N a : Int), 1 ≤ pw → ruF zs f p pw acc = some (N, a) →
    ∃ n : Int, N = acc + n * pw ∧ 0 ≤ n ∧ (pw = 1 ∨ 0 < n) ∧ a = ((p + (uvF f n).length : Nat) : Int) ∧ (zs.drop p).take (uvF f n).length = uvF f n ∧ p + (uvF f n).length ≤ zs.length := by
  intro f
  induction f with
  | zero => intro p pw acc N a _ h; simp [ruF] at h
  | succ f ih =>
    intro p pw acc N a hp h
    by_cases hl : p < zs.length
    · have hq : zs[p]? = some zs[p] := List.getElem?_eq_getElem hl
      have hx := hz zs[p] (List.getElem_mem _)
      have hd : zs.drop p = zs[p] :: zs.drop (p + 1) := List.drop_eq_getElem_cons hl
      generalize zs[p] = x at *
      by_cases hb : x < 128
      · by_cases hg : (1 < pw ∧ x = 0) ∨ 1000000000000 < acc + x % 128 * pw
        · rw [ruF_bad hq hb hg] at h; cases h
        · rw [ruF_good hq hb hg] at h
          simp only [Option.some.injEq, Prod.mk.injEq] at h
          have e : uvF (f + 1) x = [x] := by simp [uvF, hb]
          have hm : x % 128 = x := by omega
          refine ⟨x, by rw [← h.1, hm], hx.1, by omega, by rw [e]; simp; omega, by rw [e, hd]; simp, by rw [e]; simp; omega⟩
      · rw [ruF_big hq (by omega)] at h
        obtain ⟨n, h1, h2, h3, h4, h5, h6⟩ := ih (p + 1) (pw * 128) (acc + x % 128 * pw) N a (by omega) h
        have hn : 0 < n := by omega
        have e : uvF (f + 1) (x % 128 + n * 128) = x :: uvF f n := by
          rw [uvF_succ, if_neg (by omega), show (x % 128 + n * 128) % 128 + 128 = x by omega, show (x % 128 + n * 128) / 128 = n by omega]
        refine ⟨x % 128 + n * 128, ?_, by omega, .inr (by omega), ?_, ?_, ?_⟩
        · rw [h1, Int.add_mul, Int.mul_assoc n 128 pw, Int.mul_comm 128 pw]
          omega
        · rw [e, h4]; simp only [List.length_cons]; omega
        · rw [e, hd, List.length_cons, List.take_succ_cons, h5]
        · rw [e, List.length_cons]; omega
    · rw [ruF_out (by omega)] at h; cases h
theorem readU_can {zs : List Int} (hz : ∀ z ∈ zs, 0 ≤ z ∧ z ≤ 255) {off N a : Int} (h : readU zs off = some (N, a)) :
    ∃ p q : Nat, off = p ∧ a = q ∧ p < q ∧ q ≤ zs.length ∧ (zs.drop p).take (q - p) = uv N ∧ 0 ≤ N ∧ N ≤ 1000000000000 := by
  have hbd := readU_bd hz h
  unfold readU at h
  split at h
  · cases h
  · rename_i hneg
    obtain ⟨p, rfl⟩ := Int.eq_ofNat_of_zero_le (show 0 ≤ off by omega)
    obtain ⟨n, h1, h2, h3, h4, h5, h6⟩ := ruF_can hz 6 _ 1 0 N a (by omega) h
    have e : N = n := by omega
    subst e
    have hp := uv_pos N
    simp only [Int.toNat_natCast] at h4 h5 h6
    refine ⟨p, p + (uv N).length, rfl, h4, by omega, h6, ?_, hbd.1, hbd.2.1⟩
    rw [show p + (uv N).length - p = (uv N).length by omega]
    exact h5

/-! ### byte strings -/
theorem rb_app (b d : List Int) (hd : (d.length : Int) ≤ 1000000000000) : rbR (appB b d d.length) b.length d.length = some (d, ((appB b d d.length).length : Int)) := by
  have e : appB b d d.length = b ++ (uv d.length ++ d) := by rw [appB, appU_yes (by simp [inR]; omega), List.append_assoc]
  rw [e]
  rw [rbR_good (readU_uv b d _ (by omega) hd) (by simp; omega)]
  have e2 : (b ++ (uv (d.length : Int) ++ d)).drop (b.length + (uv (d.length : Int)).length) = d := by rw [← List.append_assoc, List.drop_append_of_le_length (by simp)]; simp
  rw [show (((b.length + (uv (d.length : Int)).length : Nat) : Int)).toNat = b.length + (uv (d.length : Int)).length from Int.toNat_natCast _, e2, show ((d.length : Int)).toNat = d.length from Int.toNat_natCast _, List.take_length, List.length_append, List.length_append]
  have h9 : (((b.length + (uv (d.length : Int)).length : Nat) : Int)) + (d.length : Int) = ((b.length + ((uv (d.length : Int)).length + d.length) : Nat) : Int) := by omega
  rw [h9]
theorem rb_short (b d : List Int) (hd : (d.length : Int) ≤ 1000000000000) : rbR (appB b d d.length) b.length ((d.length : Int) - 1) = none := by
  have e : appB b d d.length = b ++ (uv d.length ++ d) := by rw [appB, appU_yes (by simp [inR]; omega), List.append_assoc]
  rw [e]
  exact rbR_bad (readU_uv b d _ (by omega) hd) (.inl (by omega))

/-! ### lists -/
theorem encL_flat : ∀ (l a : List Int), (∀ z ∈ l, 0 ≤ z ∧ z ≤ 1000000000000) → l.foldl appU a = a ++ l.flatMap uv := by
  intro l
  induction l with
  | nil => intro a _; simp
  | cons x l ih =>
    intro a h
    have hx := h x (by simp)
    rw [List.foldl_cons, ih _ (fun z hz => h z (by simp [hz])), appU_yes (by simp [inR]; omega)]
    simp
theorem dec_flat : ∀ (l b : List Int), (∀ z ∈ l, 0 ≤ z ∧ z ≤ 1000000000000) → decF (b ++ l.flatMap uv) l.length b.length = some (l, ((b ++ l.flatMap uv).length : Int)) := by
  intro l
  induction l with
  | nil => intro b _; simp [decF]
  | cons x l ih =>
    intro b h
    have hx := h x (by simp)
    have hr := readU_uv b (l.flatMap uv) x hx.1 hx.2
    have h2 := ih (b ++ uv x) (fun z hz => h z (by simp [hz]))
    simp only [List.append_assoc, List.length_append] at h2
    simp only [List.flatMap_cons, List.length_cons, decF, hr, h2]
    simp
set_option linter.unusedSimpArgs false
theorem dec_more : ∀ (l b : List Int), (∀ z ∈ l, 0 ≤ z ∧ z ≤ 1000000000000) → decF (b ++ l.flatMap uv) (l.length + 1) b.length = none := by
  intro l
  induction l with
  | nil =>
    intro b _
    have : readU (b ++ ([] : List Int).flatMap uv) b.length = none := by
      unfold readU
      rw [if_neg (by omega)]
      exact ruF_out (by simp)
    simp only [List.length_nil, decF, this]
  | cons x l ih =>
    intro b h
    have hx := h x (by simp)
    have hr := readU_uv b (l.flatMap uv) x hx.1 hx.2
    have h2 := ih (b ++ uv x) (fun z hz => h z (by simp [hz]))
    simp only [List.append_assoc, List.length_append] at h2
    rw [List.length_cons, decF, List.flatMap_cons, hr]
    simp only [h2, Option.map_none]
theorem dec_enc_list (l : List Int) (h : ∀ z ∈ l, 0 ≤ z ∧ z ≤ 1000000000000) (hl : l.length ≤ 50) : decR (encL l) 0 l.length = some (l, ((encL l).length : Int)) := by
  have e : encL l = l.flatMap uv := by rw [encL, encL_flat l [] h]; simp
  have h2 := dec_flat l [] h
  unfold decR
  rw [if_pos (by simp [inR]; omega), e]
  simpa using h2
theorem dec_enc_more (l : List Int) (h : ∀ z ∈ l, 0 ≤ z ∧ z ≤ 1000000000000) (hl : l.length ≤ 50) : decR (encL l) 0 ((l.length : Int) + 1) = none := by
  have e : encL l = l.flatMap uv := by rw [encL, encL_flat l [] h]; simp
  have h2 := dec_more l [] h
  unfold decR
  rw [if_pos (by simp [inR]; omega), e, show ((l.length : Int) + 1).toNat = l.length + 1 by omega]
  simpa using h2
end Go.Proofs.Ytifghjkiodnehaa
