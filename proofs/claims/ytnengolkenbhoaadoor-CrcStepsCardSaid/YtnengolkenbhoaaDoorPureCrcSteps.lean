/- The sum of one byte more is one step more. -/
import Derived.Test.YtnengolkenbhoaaDoorPCrcStepsy
import Derived.OpenShut
import Derived.Laws.BitsAllLaws
namespace Go.Proofs.YtnengolkenbhoaaDoor.Pure
open Go.RowKit Go.Proofs.YtnengolkenbhoaaDoor.PCrcSteps Go.Proofs.YtnengolkenbhoaaDoorW.PrintWords Go.Proofs.YtnengolkenbhoaaDoorW.PrintLast Go.Proofs.YtnengolkenbhoaaDoorW.PrintMore Go
/-! ### the check sum, over Nat -/
def poly : Nat := 3988292384
def bs (x : Nat) : Nat := x / 2 ^^^ (if x % 2 = 1 then poly else 0)
theorem xor_half (a b : Nat) : (a ^^^ b) / 2 = a / 2 ^^^ b / 2 := by
  apply Nat.eq_of_testBit_eq
  intro i
  simp [Nat.testBit_div_two]
theorem xor_odd (a b : Nat) : (a ^^^ b) % 2 = (a + b) % 2 := by
  have h : (a ^^^ b).testBit 0 = (a.testBit 0 ^^ b.testBit 0) := Nat.testBit_xor ..
  simp only [Nat.testBit_zero] at h
  rcases Nat.mod_two_eq_zero_or_one a with ha | ha <;> rcases Nat.mod_two_eq_zero_or_one b with hb | hb <;> rcases Nat.mod_two_eq_zero_or_one (a ^^^ b) with hc | hc <;> simp [ha, hb, hc] at h <;> omega
theorem xor_lc (a b c : Nat) : a ^^^ (b ^^^ c) = b ^^^ (a ^^^ c) := by rw [← Nat.xor_assoc, Nat.xor_comm a b, Nat.xor_assoc]
theorem xor_un (a b : Nat) : a ^^^ (a ^^^ b) = b := by rw [← Nat.xor_assoc, Nat.xor_self, Nat.zero_xor]
theorem xor_cancel_right {a b c : Nat} (h : a ^^^ c = b ^^^ c) : a = b := by
  have := congrArg (· ^^^ c) h
  simpa [Nat.xor_assoc] using this
theorem xor_cancel_left {a b c : Nat} (h : c ^^^ a = c ^^^ b) : a = b := xor_cancel_right (c := c) (by rw [Nat.xor_comm a, Nat.xor_comm b]; exact h)
theorem bs_xor (a b : Nat) : bs (a ^^^ b) = bs a ^^^ bs b := by
  unfold bs
  rw [xor_half, xor_odd]
  rcases Nat.mod_two_eq_zero_or_one a with ha | ha <;> rcases Nat.mod_two_eq_zero_or_one b with hb | hb <;> simp [Nat.add_mod, ha, hb, Nat.xor_comm, xor_lc, xor_un]
theorem bs_zero : bs 0 = 0 := by decide
def bsN : Nat → Nat → Nat
  | 0, x => x
  | n + 1, x => bsN n (bs x)
theorem bsN_xor : ∀ (n a b : Nat), bsN n (a ^^^ b) = bsN n a ^^^ bsN n b
  | 0, _, _ => rfl
  | n + 1, a, b => by rw [bsN, bsN, bsN, bs_xor, bsN_xor n]
theorem bs_lt {x : Nat} (h : x < 4294967296) : bs x < 4294967296 := by
  unfold bs
  have h1 : x / 2 < 2 ^ 32 := by omega
  have h2 : (if x % 2 = 1 then poly else 0) < 2 ^ 32 := by split <;> decide
  exact Nat.xor_lt_two_pow h1 h2
theorem bsN_lt : ∀ (n : Nat) {x : Nat}, x < 4294967296 → bsN n x < 4294967296
  | 0, _, h => h
  | n + 1, _, h => bsN_lt n (bs_lt h)
theorem bsN_add : ∀ (m n x : Nat), bsN (m + n) x = bsN n (bsN m x)
  | 0, n, x => by rw [Nat.zero_add]; rfl
  | m + 1, n, x => by rw [Nat.add_right_comm, bsN, bsN_add m, bsN]
def bit (x : Nat) : Nat := if x % 2 = 1 then poly else 0
theorem bs_split (x : Nat) : bs x = x / 2 ^^^ bit x := rfl
/-- four bit steps at once: by the low half byte. -/
theorem four_split (x : Nat) : bsN 4 x = x / 16 ^^^ (bit (x / 8) ^^^ (bsN 1 (bit (x / 4)) ^^^ (bsN 2 (bit (x / 2)) ^^^ bsN 3 (bit x)))) := by
  rw [bsN, bs_split x, bsN_xor, bsN, bs_split (x / 2), bsN_xor, bsN, bs_split (x / 2 / 2), bsN_xor, bsN, bs_split (x / 2 / 2 / 2)]
  rw [show x / 2 / 2 / 2 / 2 = x / 16 by omega, show x / 2 / 2 / 2 = x / 8 by omega, show x / 2 / 2 = x / 4 by omega]
  simp only [bsN, Nat.xor_assoc]
theorem bit_mod (x d m : Nat) (h : (x / d) % 2 = (m / d) % 2) : bit (x / d) = bit (m / d) := by unfold bit; rw [h]
theorem four_low (x : Nat) : bsN 4 x = x / 16 ^^^ bsN 4 (x % 16) := by
  rw [four_split x, four_split (x % 16)]
  rw [bit_mod x 8 (x % 16) (by omega), bit_mod x 4 (x % 16) (by omega), bit_mod x 2 (x % 16) (by omega)]
  rw [show bit x = bit (x % 16) by unfold bit; rw [show x % 16 % 2 = x % 2 by omega], show x % 16 / 16 = 0 by omega, Nat.zero_xor]
theorem bs_inj {x y : Nat} (hx : x < 4294967296) (hy : y < 4294967296) (h : bs x = bs y) : x = y := by
  have top : ∀ z : Nat, z < 4294967296 → (bs z).testBit 31 = decide (z % 2 = 1) := by
    intro z hz
    unfold bs
    rw [Nat.testBit_xor, Nat.testBit_lt_two_pow (show z / 2 < 2 ^ 31 by omega)]
    by_cases hh : z % 2 = 1
    · rw [if_pos hh]; simp [hh]; decide
    · rw [if_neg hh]; simp [hh]
  have hp : decide (x % 2 = 1) = decide (y % 2 = 1) := by rw [← top x hx, ← top y hy, h]
  have hp' : x % 2 = 1 ↔ y % 2 = 1 := by simpa using hp
  unfold bs at h
  have e : (if x % 2 = 1 then poly else 0) = (if y % 2 = 1 then poly else 0) := by simp only [hp']
  rw [e] at h
  have h2 : x / 2 = y / 2 := xor_cancel_right h
  omega
theorem bsN_inj : ∀ (n : Nat) {x y : Nat}, x < 4294967296 → y < 4294967296 → bsN n x = bsN n y → x = y
  | 0, _, _, _, _, h => h
  | n + 1, _, _, hx, hy, h => bs_inj hx hy (bsN_inj n (bs_lt hx) (bs_lt hy) h)
def stepN (c b : Nat) : Nat := bsN 8 (c ^^^ b)
theorem xor_u32 {a b : Nat} (h : a < 4294967296) (g : b < 4294967296) : a ^^^ b < 4294967296 := Nat.xor_lt_two_pow (n := 32) h g
theorem stepN_lt {c b : Nat} (h : c < 4294967296) (g : b < 256) : stepN c b < 4294967296 := bsN_lt 8 (xor_u32 h (by omega))
theorem stepN_inj_c {c d b : Nat} (h : c < 4294967296) (g : d < 4294967296) (hb : b < 256) (e : stepN c b = stepN d b) : c = d := xor_cancel_right (bsN_inj 8 (xor_u32 h (by omega)) (xor_u32 g (by omega)) e)
theorem stepN_inj_b {c a b : Nat} (h : c < 4294967296) (ha : a < 256) (hb : b < 256) (e : stepN c a = stepN c b) : a = b := xor_cancel_left (bsN_inj 8 (xor_u32 h (by omega)) (xor_u32 h (by omega)) e)
def sumN (c : Nat) (l : List Int) : Nat := l.foldl (fun c b => stepN c b.toNat) c
theorem nib_tells : ∀ r : Nat, r < 16 → rd nibL (r : Int) = ((bsN 4 r : Nat) : Int) := by decide
theorem four_tells (x : Nat) (h : x < 4294967296) : crc_four.f (x : Int) = some ((bsN 4 x : Nat) : Int) := by
  unfold crc_four.f
  rw [if_pos (by omega), if_pos (by omega), show ((x : Int) % 16) = ((x % 16 : Nat) : Int) by omega, nib_tells _ (by omega), show ((x : Int) / 16) = ((x / 16 : Nat) : Int) by omega,
    u32_xor_nat _ _ (by omega) (bsN_lt 4 (by omega)), ← four_low]
theorem step_tells (c b : Int) (h0 : 0 ≤ c) (h1 : c < 4294967296) (g0 : 0 ≤ b) (g1 : b < 256) : crc_Step.f c b = some ((stepN c.toNat b.toNat : Nat) : Int) := by
  unfold crc_Step.f
  rw [show b % 4294967296 = b by omega, u32_xor c b h0 h1 g0 (by omega), four_tells _ (xor_u32 (by omega) (by omega)), Option.bind_some, four_tells _ (bsN_lt 4 (xor_u32 (by omega) (by omega))), Option.bind_some]
  rw [← bsN_add]; rfl
theorem sumN_lt : ∀ (l : List Int) (_ : ∀ x ∈ l, 0 ≤ x ∧ x < 256) {c : Nat}, c < 4294967296 → sumN c l < 4294967296
  | [], _, _, h => h
  | a :: l, hl, c, h => by
    have ha := hl a (by simp)
    exact sumN_lt l (fun x hx => hl x (by simp [hx])) (stepN_lt h (show a.toNat < 256 by omega))
theorem sum_l0_tells (l : List Int) (hw : ∀ x ∈ l, 0 ≤ x ∧ x < 256) (hl : l.length ≤ 4000) : ∀ (k : Nat) (i : Nat) (c : Nat), l.length - i < k → i ≤ l.length → c < 4294967296 → crc_Sum.l0 k (c : Int) l (l.length : Int) (i : Int) = some (Go.bits .xor .u32 (Go.IntKind.max .u32) ((sumN c (l.drop i) : Nat) : Int))
  | 0, i, c, h, _, _ => by omega
  | k + 1, i, c, h, hi, hc => by
    rw [crc_Sum.l0]
    by_cases hh : i < l.length
    · rw [if_pos (by omega), if_pos (by omega), if_pos (by omega)]
      have hr : rd l (i : Int) = l[i] := by simp [rd, hh]
      have hb := hw l[i] (List.getElem_mem hh)
      rw [hr, step_tells _ _ (by omega) (by omega) hb.1 hb.2, Option.bind_some, show wrap64 ((i : Int) + 1) = ((i + 1 : Nat) : Int) by unfold wrap64; omega, sum_l0_tells l hw hl k (i + 1) _ (by omega) (by omega) (stepN_lt (by omega) (by omega)), List.drop_eq_getElem_cons hh, Int.toNat_natCast]
      rfl
    · rw [if_neg (by omega), show l.drop i = [] from List.drop_of_length_le (by omega)]; rfl
def sumI (l : List Int) : Int := ((4294967295 ^^^ sumN 4294967295 l : Nat) : Int)
theorem sum_tells (k : Nat) (l : List Int) (hw : ∀ x ∈ l, 0 ≤ x ∧ x < 256) (hl : l.length ≤ 4000) (hk : l.length < k) : crc_Sum.f k l = some (sumI l) := by
  unfold crc_Sum.f
  have := sum_l0_tells l hw hl k 0 4294967295 (by omega) (by omega) (by omega)
  rw [show ((4294967295 : Nat) : Int) = 4294967295 from rfl, show ((0 : Nat) : Int) = 0 from rfl, List.drop_zero] at this
  rw [this, show Go.IntKind.max .u32 = ((4294967295 : Nat) : Int) from rfl, u32_xor_nat _ _ (by omega) (sumN_lt l hw (by omega))]; rfl
theorem crc_awake (k : Nat) (hk : 20 < k) : exchequerlaw02_awake.f k = some true := by
  unfold exchequerlaw02_awake.f
  rw [step_tells _ _ (by omega) (by omega) (by omega) (by omega), Option.bind_some, if_neg (by decide +kernel), sum_tells k _ (by decide) (by simp) (by simp; omega), Option.bind_some, if_pos (by decide +kernel), sum_tells k _ (by decide) (by simp) (by simp; omega), Option.bind_some]
  decide +kernel
theorem CrcSteps : exchequerlaw02_CrcSteps.Pure := by
  intro l b hl hb
  have hw : ∀ x ∈ l, 0 ≤ x ∧ x < 256 := fun x hx => by have := bounds_u8 (hl.2 x hx); omega
  have hb' := bounds_u8 hb
  refine ⟨3100, ?_⟩
  unfold exchequerlaw02_CrcSteps.f
  have ha := crc_awake 3100 (by omega)
  generalize exchequerlaw02_awake.f 3100 = aw at ha ⊢
  rw [ha]
  by_cases h : (l.length : Int) > 3000
  · rw [if_pos h]; rfl
  · have hw' : ∀ x ∈ l ++ [b], 0 ≤ x ∧ x < 256 := fun x hx => by
      rcases List.mem_append.1 hx with h | h
      · exact hw x h
      · rw [List.mem_singleton.1 h]; omega
    have hs := sumN_lt l hw (c := 4294967295) (by omega)
    have hx : 4294967295 ^^^ sumN 4294967295 l < 4294967296 := xor_u32 (by omega) hs
    rw [if_neg h, Option.bind_some, if_pos (by simp; omega), Option.bind_some, List.nil_append, if_pos (by omega), sum_tells 3100 _ hw' (by simp; omega) (by simp; omega), Option.bind_some, sum_tells 3100 l hw (by omega) (by omega), Option.bind_some]
    rw [show Go.IntKind.max .u32 = ((4294967295 : Nat) : Int) from rfl, sumI, sumI, u32_xor_nat _ _ (by omega) hx, xor_un, step_tells _ _ (by omega) (by omega) (by omega) (by omega), Option.bind_some, u32_xor_nat _ _ (by omega) (stepN_lt (by omega) (by omega))]
    rw [if_pos (by rw [sumN, List.foldl_append]; rfl)]
    rfl

end Go.Proofs.YtnengolkenbhoaaDoor.Pure
