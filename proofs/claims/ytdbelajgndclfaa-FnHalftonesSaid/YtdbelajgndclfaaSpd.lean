/- Spreading errors, plain: each step hands on the error of one pixel; nothing gets large, and the sum is kept. -/
import Derived.Test.YtdbelajgndclfaaWaysB
namespace Go.Proofs.Ytdbelajgndclfaa
open Go.RowKit

/-- The error of a pixel. -/
def errE (v : Int) : Int := if v < 50 then v else v - 99
/-- A part of the error goes to a place, or is lost. -/
def giveO (W H : Nat) (p : Int × Int) (n : Int) (s : (Nat → Int) × Int) : (Nat → Int) × Int :=
  if inG W H p then (setF s.1 (plc W p) (s.1 (plc W p) + n), s.2) else (s.1, s.2 + n)
def shR (e : Int) : Int := e * 7 / 16
def shL (e : Int) : Int := e * 3 / 16
def shU (e : Int) : Int := e * 5 / 16
def shZ (e : Int) : Int := e - shR e - shL e - shU e
/-- The four places and parts. -/
def spdP (x y : Nat) (m : Nat) : Int × Int :=
  match m with
  | 0 => ((x : Int) + 1, (y : Int))
  | 1 => ((x : Int) - 1, (y : Int) + 1)
  | 2 => ((x : Int), (y : Int) + 1)
  | _ => ((x : Int) + 1, (y : Int) + 1)
def spdN (e : Int) (m : Nat) : Int :=
  match m with
  | 0 => shR e
  | 1 => shL e
  | 2 => shU e
  | _ => shZ e
/-- Behind m of the four parts. -/
def spdM (W H x y : Nat) (e : Int) (s : (Nat → Int) × Int) : Nat → (Nat → Int) × Int
  | 0 => s
  | m + 1 => giveO W H (spdP x y m) (spdN e m) (spdM W H x y e s m)
def spdTo (W H : Nat) (G : Nat → Int) : Nat → (Nat → Int) × Int
  | 0 => (G, 0)
  | k + 1 => spdM W H (k % W) (k / W) (errE ((spdTo W H G k).1 k)) (spdTo W H G k) 4
/-- The pixels. -/
def spdB (W H : Nat) (G : Nat → Int) (k : Nat) : Bool := decide ((spdTo W H G k).1 k < 50)

/-- A sum over the rest. -/
def tailF (f : Int → Int) (O : Nat → Int) : Nat → Nat → Int
  | _, 0 => 0
  | j, m + 1 => f (O j) + tailF f O (j + 1) m
theorem tailF_out {f : Int → Int} {O : Nat → Int} {s : Nat} {v : Int} : ∀ (m j : Nat), s < j → tailF f (setF O s v) j m = tailF f O j m
  | 0, _, _ => rfl
  | m + 1, j, h => by rw [tailF, tailF, tailF_out m (j + 1) (by omega), setF_ne (by omega)]
theorem tailF_set {f : Int → Int} {O : Nat → Int} {s : Nat} {v : Int} : ∀ (m j : Nat), j ≤ s → s < j + m → tailF f (setF O s v) j m = tailF f O j m - f (O s) + f v
  | 0, _, _, _ => by omega
  | m + 1, j, h, h2 => by
    rw [tailF, tailF]
    by_cases e : s = j
    · subst e; rw [setF_same, tailF_out m (s + 1) (by omega)]; omega
    · rw [setF_ne (by omega), tailF_set m (j + 1) (by omega) (by omega)]; omega
theorem tailF_nonneg {f : Int → Int} (hf : ∀ v, 0 ≤ f v) {O : Nat → Int} : ∀ (m j : Nat), 0 ≤ tailF f O j m
  | 0, _ => Int.le_refl _
  | m + 1, j => by rw [tailF]; have := hf (O j); have := tailF_nonneg hf (O := O) m (j + 1); omega
theorem tailF_ge {f : Int → Int} (hf : ∀ v, 0 ≤ f v) {O : Nat → Int} {q : Nat} : ∀ (m j : Nat), j ≤ q → q < j + m → f (O q) ≤ tailF f O j m
  | 0, _, _, _ => by omega
  | m + 1, j, h, h2 => by
    rw [tailF]
    have h0 := hf (O j)
    have h1 := tailF_nonneg hf (O := O) m (j + 1)
    by_cases e : q = j
    · subst e; omega
    · have := tailF_ge hf (O := O) (q := q) m (j + 1) (by omega) (by omega); omega
theorem tailF_le {f : Int → Int} {B : Int} {O : Nat → Int} : ∀ (m j : Nat), (∀ q, j ≤ q → q < j + m → f (O q) ≤ B) → tailF f O j m ≤ B * (m : Int)
  | 0, _, _ => by simp [tailF]
  | m + 1, j, h => by
    rw [tailF]
    have h0 := h j (Nat.le_refl _) (by omega)
    have h1 := tailF_le (f := f) (B := B) (O := O) m (j + 1) (fun q h1 h2 => h q (by omega) (by omega))
    rw [Int.natCast_succ, Int.mul_add, Int.mul_one]; omega

def absI (v : Int) : Int := max v (-v)
theorem absI_nonneg (v : Int) : 0 ≤ absI v := by unfold absI; omega
/-- What is still under way, and what is lost. -/
def phi (f : Int → Int) (n : Nat) (s : (Nat → Int) × Int) (j : Nat) : Int := tailF f s.1 j (n - j) + f s.2

theorem phi_step {f : Int → Int} {n : Nat} {s : (Nat → Int) × Int} {j : Nat} (h : j < n) : phi f n s (j + 1) = phi f n s j - f (s.1 j) := by
  obtain ⟨m, rfl⟩ : ∃ m, n = j + (m + 1) := ⟨n - j - 1, by omega⟩
  simp only [phi]
  rw [show j + (m + 1) - j = m + 1 by omega, show j + (m + 1) - (j + 1) = m by omega, tailF]; omega
theorem phi_id {W H : Nat} {p : Int × Int} {n : Int} {s : (Nat → Int) × Int} {j : Nat} (hp : inG W H p = true → j ≤ plc W p ∧ plc W p < W * H) :
    phi id (W * H) (giveO W H p n s) j = phi id (W * H) s j + n := by
  unfold giveO
  by_cases h : inG W H p = true
  · obtain ⟨h1, h2⟩ := hp h
    rw [if_pos h]
    simp only [phi]
    rw [tailF_set _ _ h1 (by omega)]; simp only [id]; omega
  · rw [if_neg h]; simp only [phi, id]; omega
theorem phi_abs {W H : Nat} {p : Int × Int} {n : Int} {s : (Nat → Int) × Int} {j : Nat} (hp : inG W H p = true → j ≤ plc W p ∧ plc W p < W * H) :
    phi absI (W * H) (giveO W H p n s) j ≤ phi absI (W * H) s j + absI n := by
  unfold giveO
  by_cases h : inG W H p = true
  · obtain ⟨h1, h2⟩ := hp h
    rw [if_pos h]
    simp only [phi]
    rw [tailF_set _ _ h1 (by omega)]; unfold absI; omega
  · rw [if_neg h]; simp only [phi]; unfold absI; omega
/-- The places of the parts lie behind the pixel. -/
theorem spdP_behind {W H x y m : Nat} (hx : x < W) (_hy : y < H) (h : inG W H (spdP x y m) = true) : y * W + x + 1 ≤ plc W (spdP x y m) ∧ plc W (spdP x y m) < W * H := by
  rw [inG_iff] at h
  have hm : ∀ (a b : Nat), a < W → b < H → b * W + a < W * H := fun a b ha hb => by
    have := Nat.mul_le_mul_right W (show b + 1 ≤ H by omega)
    rw [Nat.succ_mul, Nat.mul_comm H W] at this; omega
  have hs : (y + 1) * W = y * W + W := Nat.succ_mul _ _
  match m, h with
  | 0, h =>
    simp only [spdP] at h ⊢
    have e : plc W ((x : Int) + 1, (y : Int)) = y * W + (x + 1) := by simp only [plc]; rw [show ((x : Int) + 1).toNat = x + 1 by omega, show ((y : Int)).toNat = y by omega]
    rw [e]; exact ⟨by omega, hm _ _ (by omega) (by omega)⟩
  | 1, h =>
    simp only [spdP] at h ⊢
    have e : plc W ((x : Int) - 1, (y : Int) + 1) = (y + 1) * W + (x - 1) := by simp only [plc]; rw [show ((x : Int) - 1).toNat = x - 1 by omega, show ((y : Int) + 1).toNat = y + 1 by omega]
    rw [e]; exact ⟨by omega, hm _ _ (by omega) (by omega)⟩
  | 2, h =>
    simp only [spdP] at h ⊢
    have e : plc W ((x : Int), (y : Int) + 1) = (y + 1) * W + x := by simp only [plc]; rw [show ((x : Int)).toNat = x by omega, show ((y : Int) + 1).toNat = y + 1 by omega]
    rw [e]; exact ⟨by omega, hm _ _ (by omega) (by omega)⟩
  | m + 3, h =>
    simp only [spdP] at h ⊢
    have e : plc W ((x : Int) + 1, (y : Int) + 1) = (y + 1) * W + (x + 1) := by simp only [plc]; rw [show ((x : Int) + 1).toNat = x + 1 by omega, show ((y : Int) + 1).toNat = y + 1 by omega]
    rw [e]; exact ⟨by omega, hm _ _ (by omega) (by omega)⟩
/-- The parts, summed to the m-th. -/
def absP (e : Int) : Nat → Int
  | 0 => 0
  | m + 1 => absP e m + absI (spdN e m)
theorem absP_le (e : Int) (m : Nat) (hm : m ≤ 4) : absP e m ≤ absI e + 6 := by
  have : m = 0 ∨ m = 1 ∨ m = 2 ∨ m = 3 ∨ m = 4 := by omega
  rcases this with h | h | h | h | h <;> subst h <;> simp only [absP, spdN, shZ, shR, shL, shU, absI] <;> omega
theorem spdM_abs {W H x y : Nat} {e : Int} {s : (Nat → Int) × Int} (hx : x < W) (hy : y < H) : ∀ m, phi absI (W * H) (spdM W H x y e s m) (y * W + x + 1) ≤ phi absI (W * H) s (y * W + x + 1) + absP e m
  | 0 => by simp [spdM, absP]
  | m + 1 => by
    rw [spdM, absP]
    have := phi_abs (n := spdN e m) (s := spdM W H x y e s m) (spdP_behind (m := m) hx hy)
    have := spdM_abs (e := e) (s := s) hx hy m
    omega
theorem spdM_id {W H x y : Nat} {e : Int} {s : (Nat → Int) × Int} (hx : x < W) (hy : y < H) : phi id (W * H) (spdM W H x y e s 4) (y * W + x + 1) = phi id (W * H) s (y * W + x + 1) + e := by
  simp only [spdM]
  rw [phi_id (spdP_behind hx hy), phi_id (spdP_behind hx hy), phi_id (spdP_behind hx hy), phi_id (spdP_behind hx hy)]
  simp only [spdN, shZ]; omega
theorem errE_abs (v : Int) : absI (errE v) ≤ absI v := by unfold errE absI; split <;> omega
theorem xy_of {W H k : Nat} (hk : k < W * H) : k % W < W ∧ k / W < H ∧ k / W * W + k % W = k := by
  have hW : 0 < W := Nat.pos_of_ne_zero (fun h => by subst h; simp at hk)
  exact ⟨Nat.mod_lt _ hW, (Nat.div_lt_iff_lt_mul hW).2 (by rw [Nat.mul_comm]; exact hk), by rw [Nat.mul_comm]; exact Nat.div_add_mod k W⟩
theorem spd_abs {W H : Nat} {G : Nat → Int} (hG : ∀ k, k < W * H → 0 ≤ G k ∧ G k ≤ 99) : ∀ k, k ≤ W * H → phi absI (W * H) (spdTo W H G k) k ≤ 99 * ((W * H : Nat) : Int) + 6 * (k : Int)
  | 0, _ => by
    have := tailF_le (f := absI) (B := 99) (O := G) (W * H) 0 (fun q _ h => by have := hG q (by omega); unfold absI; omega)
    simp only [spdTo, phi, Nat.sub_zero]
    have h0 : absI 0 = 0 := by decide
    rw [h0]; omega
  | k + 1, h => by
    obtain ⟨hx, hy, e⟩ := xy_of (show k < W * H by omega)
    have ih := spd_abs hG k (by omega)
    have h1 := spdM_abs (e := errE ((spdTo W H G k).1 k)) (s := spdTo W H G k) hx hy 4
    have h2 := absP_le (errE ((spdTo W H G k).1 k)) 4 (Nat.le_refl _)
    have h3 := errE_abs ((spdTo W H G k).1 k)
    rw [e] at h1
    have h5 := phi_step (f := absI) (s := spdTo W H G k) (show k < W * H by omega)
    rw [spdTo]; omega
/-- All numbers behind m parts of the k-th pixel are small. -/
theorem spd_small {W H : Nat} {G : Nat → Int} (hW : W ≤ 16) (hH : H ≤ 16) (hG : ∀ k, k < W * H → 0 ≤ G k ∧ G k ≤ 99) {k : Nat} (hk : k < W * H) {m : Nat} (hm : m ≤ 4) :
    (∀ q, k < q → q < W * H → -40000 ≤ (spdM W H (k % W) (k / W) (errE ((spdTo W H G k).1 k)) (spdTo W H G k) m).1 q ∧ (spdM W H (k % W) (k / W) (errE ((spdTo W H G k).1 k)) (spdTo W H G k) m).1 q ≤ 40000) ∧
    -40000 ≤ (spdM W H (k % W) (k / W) (errE ((spdTo W H G k).1 k)) (spdTo W H G k) m).2 ∧ (spdM W H (k % W) (k / W) (errE ((spdTo W H G k).1 k)) (spdTo W H G k) m).2 ≤ 40000 := by
  have hWH : W * H ≤ 256 := Nat.le_trans (Nat.mul_le_mul hW hH) (by decide)
  obtain ⟨hx, hy, e⟩ := xy_of hk
  have ih := spd_abs hG k (by omega)
  have h1 := spdM_abs (e := errE ((spdTo W H G k).1 k)) (s := spdTo W H G k) hx hy m
  have h2 := absP_le (errE ((spdTo W H G k).1 k)) m hm
  have h3 := errE_abs ((spdTo W H G k).1 k)
  rw [e] at h1
  have h5 := phi_step (f := absI) (s := spdTo W H G k) hk
  generalize spdM W H (k % W) (k / W) (errE ((spdTo W H G k).1 k)) (spdTo W H G k) m = t at *
  have hb : phi absI (W * H) t (k + 1) ≤ 30000 := by omega
  have h0 := tailF_nonneg absI_nonneg (O := t.1) (W * H - (k + 1)) (k + 1)
  have h4 := absI_nonneg t.2
  simp only [phi] at hb
  refine ⟨fun q hq hn => ?_, ?_⟩
  · have := tailF_ge absI_nonneg (O := t.1) (q := q) (W * H - (k + 1)) (k + 1) (by omega) (by omega)
    have : absI (t.1 q) ≤ 30000 := by omega
    unfold absI at this; omega
  · have : absI t.2 ≤ 30000 := by omega
    unfold absI at this; omega
theorem spd_at {W H : Nat} {G : Nat → Int} (hW : W ≤ 16) (hH : H ≤ 16) (hG : ∀ k, k < W * H → 0 ≤ G k ∧ G k ≤ 99) {k : Nat} (hk : k < W * H) :
    -40000 ≤ (spdTo W H G k).1 k ∧ (spdTo W H G k).1 k ≤ 40000 := by
  have hWH : W * H ≤ 256 := Nat.le_trans (Nat.mul_le_mul hW hH) (by decide)
  have ih := spd_abs hG k (by omega)
  have h4 := absI_nonneg (spdTo W H G k).2
  have := tailF_ge absI_nonneg (O := (spdTo W H G k).1) (q := k) (W * H - k) k (Nat.le_refl _) (by omega)
  simp only [phi] at ih
  have : absI ((spdTo W H G k).1 k) ≤ 30000 := by omega
  unfold absI at this; omega
theorem spdN_small {e : Int} (h : -40000 ≤ e ∧ e ≤ 40000) (m : Nat) : -40000 ≤ spdN e m ∧ spdN e m ≤ 40000 := by
  match m with
  | 0 => simp only [spdN, shR]; omega
  | 1 => simp only [spdN, shL]; omega
  | 2 => simp only [spdN, shU]; omega
  | m + 3 => simp only [spdN, shZ, shR, shL, shU]; omega
theorem errE_small {v : Int} (h : -40000 ≤ v ∧ v ≤ 40000) : -40000 ≤ errE v ∧ errE v ≤ 40000 := by unfold errE; split <;> omega
end Go.Proofs.Ytdbelajgndclfaa
