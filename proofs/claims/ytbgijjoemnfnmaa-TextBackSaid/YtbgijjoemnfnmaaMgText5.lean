/- Texts of this claim, joined: TxtJ TxtK TxtL TxtM TxtN TxtO TxtP TxtQ TxtR TxtS TxtT. -/
import Derived.Test.YtbgijjoemnfnmaaMgText1
import Derived.Test.YtbgijjoemnfnmaaMgText2
import Derived.Test.YtbgijjoemnfnmaaMgText3
import Derived.Test.YtbgijjoemnfnmaaMgText4
/- strings.Join of texts with a blank between them. -/
namespace Go.Proofs.Ytbgijjoemnfnmaa.Al
open Go Go.Al Go.Proofs Go.RowKit
set_option maxHeartbeats 8000000
set_option maxRecDepth 100000
set_option linter.unusedVariables false
set_option linter.unusedSimpArgs false
def tailL (ws : List (List UInt8)) : List UInt8 := ws.flatMap (fun x => 32 :: x)
def joinL : List (List UInt8) → List UInt8
  | [] => []
  | w :: ws => w ++ tailL ws
def lenL (ws : List (List UInt8)) : Nat := (ws.map List.length).sum
theorem tailL_len (ws : List (List UInt8)) : (tailL ws).length = ws.length + lenL ws := by
  unfold tailL lenL
  induction ws with
  | nil => rfl
  | cons w ws ih =>
    rw [List.flatMap_cons, List.length_append, ih]
    simp only [List.length_cons, List.map_cons, List.sum_cons]
    omega
theorem lenL_take (ws : List (List UInt8)) (j : Nat) (w : List UInt8) (h : ws[j]? = some w) : lenL (ws.take (j + 1)) = lenL (ws.take j) + w.length := by
  unfold lenL
  rw [List.take_add_one, h]
  simp
theorem lenL_le (ws : List (List UInt8)) (j : Nat) : lenL (ws.take j) ≤ lenL ws := by
  unfold lenL
  conv => rhs; rw [← List.take_append_drop j ws]
  rw [List.map_append, List.sum_append]
  omega
theorem tailL_take (ws : List (List UInt8)) (j : Nat) (w : List UInt8) (h : ws[j]? = some w) : tailL (ws.take (j + 1)) = tailL (ws.take j) ++ [32] ++ w := by
  unfold tailL
  rw [List.take_add_one, h]
  simp
theorem tailL_le (ws : List (List UInt8)) (j : Nat) : (tailL (ws.take j)).length ≤ (tailL ws).length := by
  rw [tailL_len, tailL_len, List.length_take]
  have := lenL_le ws j
  omega
theorem join (ws : List (List UInt8)) (A : Option Addr) (c : Nat) (F : Heap) (hr : RowAt F A (txV ws)) (hc : ws.length ≤ c) (hl : (joinL ws).length ≤ 900000000) :
    FnK Try.prog 46 #[.slice A ws.length c, .string ⟨#[32]⟩] F (fun v F' => v = str (joinL ws) ∧ Ext F F') := by
  match ws, hr, hc, hl with
  | [], hr, hc, hl =>
    (refine fn_walk tab_ok Try.func46 rfl rfl rfl rfl ?_; (conv => whnf))
    exact ⟨rfl, Ext.refl _⟩
  | [w], hr, hc, hl =>
    obtain ⟨ad, rfl⟩ := hr.some (by rw [txV_len]; exact Nat.one_pos)
    have hw : F.cell? (ad.add 0) = some (str w) := hr.cell rfl
    have hj : joinL [w] = w := List.append_nil w
    rw [hj]
    (refine fn_walk tab_ok Try.func46 rfl rfl rfl rfl ?_; (conv => whnf))
    refine ⟨⟨by decide, by show (0 : Int) < ((1 : Nat) : Int); decide⟩, ?_⟩
    ((conv => whnf); repeat (first | (apply load_at; (conv => lhs; whnf); (with_reducible assumption); rfl; (conv => whnf)) | (apply load_at; (conv => lhs; rw [add_plain, add_plain]); (with_reducible assumption); rfl; (conv => whnf)) | (apply loads_at; (conv => lhs; whnf); (with_reducible assumption); rfl; (conv => whnf)) | (refine ⟨⟨by omega, by omega⟩, ?_⟩; (conv => whnf))))
    refine load_step hw ?_
    ((conv => whnf); repeat (first | (apply load_at; (conv => lhs; whnf); (with_reducible assumption); rfl; (conv => whnf)) | (apply load_at; (conv => lhs; rw [add_plain, add_plain]); (with_reducible assumption); rfl; (conv => whnf)) | (apply loads_at; (conv => lhs; whnf); (with_reducible assumption); rfl; (conv => whnf)) | (refine ⟨⟨by omega, by omega⟩, ?_⟩; (conv => whnf))))
    exact ⟨rfl, Ext.refl _⟩
  | w :: w2 :: ws, hr, hc, hl =>
    obtain ⟨ad, rfl⟩ := hr.some (by rw [txV_len]; simp)
    obtain ⟨N, hN⟩ : ∃ N, N = (w2 :: ws).length := ⟨_, rfl⟩
    have hjl : (joinL (w :: w2 :: ws)).length = N + lenL (w :: w2 :: ws) := by
      show (w ++ tailL (w2 :: ws)).length = _
      rw [List.length_append, tailL_len, ← hN]
      show _ = N + (w.length + lenL (w2 :: ws))
      omega
    have hN1 : 1 ≤ N := by rw [hN]; simp
    have hNN : (w :: w2 :: ws).length = N + 1 := by rw [hN]; rfl
    obtain ⟨M, rfl⟩ : ∃ M, N = M + 1 := ⟨N - 1, by omega⟩
    rw [hNN]
    rw [hNN] at hc
    obtain ⟨c', rfl⟩ : ∃ c', c = c' + 2 := ⟨c - 2, by omega⟩
    have hrd : RowAt F (some (ad.add 1)) (txV (w2 :: ws)) := hr.drop 1
    have hs1 : IntKind.i64.wrap (((M + 1 + 1 : Nat) : Int) - 1) = ((M + 1 : Nat) : Int) := by rw [wrap_eq (by omega) (by omega)]; omega
    (refine fn_walk tab_ok Try.func46 rfl rfl rfl rfl ?_; (conv => whnf))
    refine ⟨by rw [hs1]; omega, ?_⟩
    ((conv => whnf); repeat (first | (apply load_at; (conv => lhs; whnf); (with_reducible assumption); rfl; (conv => whnf)) | (apply load_at; (conv => lhs; rw [add_plain, add_plain]); (with_reducible assumption); rfl; (conv => whnf)) | (apply loads_at; (conv => lhs; whnf); (with_reducible assumption); rfl; (conv => whnf)) | (refine ⟨⟨by omega, by omega⟩, ?_⟩; (conv => whnf))))
    have hq : 2 ≤ IntKind.i64.wrap (Int.tdiv 9223372036854775807 (IntKind.i64.wrap (((M + 1 + 1 : Nat) : Int) - 1))) := by
      rw [hs1, Int.tdiv_eq_ediv_of_nonneg (by decide)]
      have h2 : (2 : Int) ≤ 9223372036854775807 / ((M + 1 : Nat) : Int) := Int.le_ediv_of_mul_le (by omega) (by omega)
      have h3 : (9223372036854775807 : Int) / ((M + 1 : Nat) : Int) ≤ 9223372036854775807 := Int.ediv_le_self _ (by decide)
      rw [wrap_eq (by omega) (by omega)]
      exact h2
    refine cond_split (fun h => ?_) (fun _ => ?_)
    · have h : decide (((1 : Nat) : Int) ≥ IntKind.i64.wrap (Int.tdiv 9223372036854775807 (IntKind.i64.wrap (((M + 1 + 1 : Nat) : Int) - 1)))) = true := h
      have := of_decide_eq_true h
      omega
    ((conv => whnf); repeat (first | (apply load_at; (conv => lhs; whnf); (with_reducible assumption); rfl; (conv => whnf)) | (apply load_at; (conv => lhs; rw [add_plain, add_plain]); (with_reducible assumption); rfl; (conv => whnf)) | (apply loads_at; (conv => lhs; whnf); (with_reducible assumption); rfl; (conv => whnf)) | (refine ⟨⟨by omega, by omega⟩, ?_⟩; (conv => whnf))))
    have hn0 : IntKind.i64.wrap (0 + IntKind.i64.wrap (((1 : Nat) : Int) * IntKind.i64.wrap (((M + 1 + 1 : Nat) : Int) - 1))) = ((M + 1 : Nat) : Int) := by
      rw [hs1, show ((1 : Nat) : Int) * ((M + 1 : Nat) : Int) = ((M + 1 : Nat) : Int) by omega]
      have h1 : IntKind.i64.wrap ((M + 1 : Nat) : Int) = ((M + 1 : Nat) : Int) := wrap_eq (by omega) (by omega)
      rw [h1, Int.zero_add, h1]
    refine loop_slots [0, 1, 5, 39, 40, 41] (fun k vs F' => ∃ j : Nat, j + k = M + 1 + 1 ∧ vs = [.slice (some ad) (M + 1 + 1) (c' + 2), .string ⟨#[32]⟩, .int .i64 ((M + 1 + lenL ((w :: w2 :: ws).take j) : Nat) : Int), .slice (some ad) (M + 1 + 1) (c' + 2), .int .i64 ((M + 1 + 1 : Nat) : Int), .int .i64 (j : Int)] ∧ F' = F) (M + 1 + 1) ⟨0, by omega, ?he, rfl⟩ ?_
    case he =>
      exact congrArg (fun x => [Value.slice (some ad) (M + 1 + 1) (c' + 2), .string ⟨#[32]⟩, .int .i64 x, .slice (some ad) (M + 1 + 1) (c' + 2), .int .i64 ((M + 1 + 1 : Nat) : Int), .int .i64 ((0 : Nat) : Int)]) hn0
    rintro k vs F1 ρ ⟨j, hjk, rfl, rfl⟩
    ((conv => whnf); repeat (first | (apply load_at; (conv => lhs; whnf); (with_reducible assumption); rfl; (conv => whnf)) | (apply load_at; (conv => lhs; rw [add_plain, add_plain]); (with_reducible assumption); rfl; (conv => whnf)) | (apply loads_at; (conv => lhs; whnf); (with_reducible assumption); rfl; (conv => whnf)) | (refine ⟨⟨by omega, by omega⟩, ?_⟩; (conv => whnf))))
    refine cond_split (fun h => ?_) (fun h => ?_)
    · have hj : j < M + 1 + 1 := by have := of_decide_eq_true h; omega
      have hx := List.getElem?_eq_getElem (show j < (w :: w2 :: ws).length by omega)
      have hlt := lenL_take _ _ _ hx
      have hle := lenL_le (w :: w2 :: ws) (j + 1)
      have hcell := tx_cell hr hx
      generalize (w :: w2 :: ws)[j]'(by omega) = u at hx hlt hcell
      have hl1 : ((M + 1 + lenL ((w :: w2 :: ws).take j) : Nat) : Int) ≤ 900000000 := by omega
      have hws : IntKind.i64.wrap ((j : Int) + 1) = ((j + 1 : Nat) : Int) := wrap_succ (by omega)
      ((conv => whnf); repeat (first | (apply load_at; (conv => lhs; whnf); (with_reducible assumption); rfl; (conv => whnf)) | (apply load_at; (conv => lhs; rw [add_plain, add_plain]); (with_reducible assumption); rfl; (conv => whnf)) | (apply loads_at; (conv => lhs; whnf); (with_reducible assumption); rfl; (conv => whnf)) | (refine ⟨⟨by omega, by omega⟩, ?_⟩; (conv => whnf))))
      refine load_step hcell ?_
      ((conv => whnf); repeat (first | (apply load_at; (conv => lhs; whnf); (with_reducible assumption); rfl; (conv => whnf)) | (apply load_at; (conv => lhs; rw [add_plain, add_plain]); (with_reducible assumption); rfl; (conv => whnf)) | (apply loads_at; (conv => lhs; whnf); (with_reducible assumption); rfl; (conv => whnf)) | (refine ⟨⟨by omega, by omega⟩, ?_⟩; (conv => whnf))))
      refine cond_split (fun h => ?_) (fun _ => ?_)
      · have h : decide ((u.length : Int) > IntKind.i64.wrap (9223372036854775807 - ((M + 1 + lenL ((w :: w2 :: ws).take j) : Nat) : Int))) = true := h
        have := of_decide_eq_true h
        rw [wrap_eq (by omega) (by omega)] at this
        omega
      ((conv => whnf); repeat (first | (apply load_at; (conv => lhs; whnf); (with_reducible assumption); rfl; (conv => whnf)) | (apply load_at; (conv => lhs; rw [add_plain, add_plain]); (with_reducible assumption); rfl; (conv => whnf)) | (apply loads_at; (conv => lhs; whnf); (with_reducible assumption); rfl; (conv => whnf)) | (refine ⟨⟨by omega, by omega⟩, ?_⟩; (conv => whnf))))
      refine ⟨k - 1, by omega, j + 1, by omega, ?_, rfl⟩
      have hw : IntKind.i64.wrap (((M + 1 + lenL ((w :: w2 :: ws).take j) : Nat) : Int) + (u.length : Int)) = ((M + 1 + lenL ((w :: w2 :: ws).take (j + 1)) : Nat) : Int) := by rw [wrap_eq (by omega) (by omega)]; omega
      rw [← hw, ← hws]
      rfl
    · have hj : j = M + 1 + 1 := by have := of_decide_eq_false h; omega
      obtain ⟨T, hT⟩ : ∃ T, T = M + 1 + lenL (w :: w2 :: ws) := ⟨_, rfl⟩
      have hTj : M + 1 + lenL ((w :: w2 :: ws).take j) = T := by rw [hj, ← hNN, List.take_length, hT]
      rw [← hT] at hjl
      refine short [0, 1, 5] [.slice (some ad) (M + 1 + 1) (c' + 2), .string ⟨#[32]⟩, .int .i64 (T : Int)] (congrArg (fun x : Nat => [Value.slice (some ad) (M + 1 + 1) (c' + 2), .string ⟨#[32]⟩, .int .i64 (x : Int)]) hTj) fun ρ => ?_
      have h0 : F1.cell? (ad.add 0) = some (str w) := hr.cell rfl
      ((conv => whnf); repeat (first | (apply load_at; (conv => lhs; whnf); (with_reducible assumption); rfl; (conv => whnf)) | (apply load_at; (conv => lhs; rw [add_plain, add_plain]); (with_reducible assumption); rfl; (conv => whnf)) | (apply loads_at; (conv => lhs; whnf); (with_reducible assumption); rfl; (conv => whnf)) | (refine ⟨⟨by omega, by omega⟩, ?_⟩; (conv => whnf))))
      refine new_step (.cells #[.pointer none, .slice none 0 0] 98) rfl fun b hb => ?_
      ((conv => whnf); repeat (first | (apply load_at; (conv => lhs; whnf); (with_reducible assumption); rfl; (conv => whnf)) | (apply load_at; (conv => lhs; rw [add_plain, add_plain]); (with_reducible assumption); rfl; (conv => whnf)) | (apply loads_at; (conv => lhs; whnf); (with_reducible assumption); rfl; (conv => whnf)) | (refine ⟨⟨by omega, by omega⟩, ?_⟩; (conv => whnf))))
      refine call_of (grow F1 b T (by omega) (by omega) hb) ?_
      rintro r F2 ⟨rfl, hd⟩
      ((conv => whnf); repeat (first | (apply load_at; (conv => lhs; whnf); (with_reducible assumption); rfl; (conv => whnf)) | (apply load_at; (conv => lhs; rw [add_plain, add_plain]); (with_reducible assumption); rfl; (conv => whnf)) | (apply loads_at; (conv => lhs; whnf); (with_reducible assumption); rfl; (conv => whnf)) | (refine ⟨⟨by omega, by omega⟩, ?_⟩; (conv => whnf))))
      refine load_step (hd.ext.cell h0) ?_
      ((conv => whnf); repeat (first | (apply load_at; (conv => lhs; whnf); (with_reducible assumption); rfl; (conv => whnf)) | (apply load_at; (conv => lhs; rw [add_plain, add_plain]); (with_reducible assumption); rfl; (conv => whnf)) | (apply loads_at; (conv => lhs; whnf); (with_reducible assumption); rfl; (conv => whnf)) | (refine ⟨⟨by omega, by omega⟩, ?_⟩; (conv => whnf))))
      have hwT : w.length + (tailL (w2 :: ws)).length = T := by
        rw [← hjl]
        show _ = (w ++ tailL (w2 :: ws)).length
        rw [List.length_append]
      refine call_of (writeString F1 F2 b [] w hd (by simp; omega)) ?_
      intro r F3 hd
      ((conv => whnf); repeat (first | (apply load_at; (conv => lhs; whnf); (with_reducible assumption); rfl; (conv => whnf)) | (apply load_at; (conv => lhs; rw [add_plain, add_plain]); (with_reducible assumption); rfl; (conv => whnf)) | (apply loads_at; (conv => lhs; whnf); (with_reducible assumption); rfl; (conv => whnf)) | (refine ⟨⟨by omega, by omega⟩, ?_⟩; (conv => whnf))))
      rw [List.nil_append] at hd
      refine loop_slots [1, 8, 63, 64, 65] (fun k vs F' => ∃ j : Nat, j + k = M + 1 ∧ vs = [.string ⟨#[32]⟩, .pointer (some ⟨b, 0, none⟩), .slice (some (ad.add 1)) (M + 1) (c' + 1), .int .i64 ((M + 1 : Nat) : Int), .int .i64 (j : Int)] ∧ Bd F1 F' b (w ++ tailL ((w2 :: ws).take j))) (M + 1) ⟨0, by omega, ?hv, by rw [List.take_zero]; show Bd F1 F3 b (w ++ []); rw [List.append_nil]; exact hd⟩ ?_
      case hv =>
        have key : ∀ x y : Value, x = Value.slice (some (ad.add 1)) (M + 1) (c' + 1) → y = .int .i64 ((M + 1 : Nat) : Int) → [Value.string ⟨#[32]⟩, .pointer (some ⟨b, 0, none⟩), x, y, .int .i64 0] = [.string ⟨#[32]⟩, .pointer (some ⟨b, 0, none⟩), .slice (some (ad.add 1)) (M + 1) (c' + 1), .int .i64 ((M + 1 : Nat) : Int), .int .i64 ((0 : Nat) : Int)] := by
          rintro x y rfl rfl
          rfl
        refine key _ _ ?_ ?_
        · conv => lhs; whnf
          exact slice_eq (if_neg (by show ¬ c' + 2 = 1; omega)) rfl rfl
        · rfl
      rintro k vs F4 ρ ⟨j, hjk, rfl, hd⟩
      ((conv => whnf); repeat (first | (apply load_at; (conv => lhs; whnf); (with_reducible assumption); rfl; (conv => whnf)) | (apply load_at; (conv => lhs; rw [add_plain, add_plain]); (with_reducible assumption); rfl; (conv => whnf)) | (apply loads_at; (conv => lhs; whnf); (with_reducible assumption); rfl; (conv => whnf)) | (refine ⟨⟨by omega, by omega⟩, ?_⟩; (conv => whnf))))
      refine cond_split (fun h => ?_) (fun h => ?_)
      · have hj : j < M + 1 := by have := of_decide_eq_true h; omega
        have hx := List.getElem?_eq_getElem (show j < (w2 :: ws).length by omega)
        have htk := tailL_take _ _ _ hx
        have hle := tailL_le (w2 :: ws) (j + 1)
        have hcell := hd.ext.cell (tx_cell hrd hx)
        generalize (w2 :: ws)[j]'(by omega) = u at hx htk hcell
        rw [htk, List.length_append, List.length_append] at hle
        have hll : ([32] : List UInt8).length = 1 := rfl
        have hws : IntKind.i64.wrap ((j : Int) + 1) = ((j + 1 : Nat) : Int) := wrap_succ (by omega)
        ((conv => whnf); repeat (first | (apply load_at; (conv => lhs; whnf); (with_reducible assumption); rfl; (conv => whnf)) | (apply load_at; (conv => lhs; rw [add_plain, add_plain]); (with_reducible assumption); rfl; (conv => whnf)) | (apply loads_at; (conv => lhs; whnf); (with_reducible assumption); rfl; (conv => whnf)) | (refine ⟨⟨by omega, by omega⟩, ?_⟩; (conv => whnf))))
        refine load_step hcell ?_
        ((conv => whnf); repeat (first | (apply load_at; (conv => lhs; whnf); (with_reducible assumption); rfl; (conv => whnf)) | (apply load_at; (conv => lhs; rw [add_plain, add_plain]); (with_reducible assumption); rfl; (conv => whnf)) | (apply loads_at; (conv => lhs; whnf); (with_reducible assumption); rfl; (conv => whnf)) | (refine ⟨⟨by omega, by omega⟩, ?_⟩; (conv => whnf))))
        refine call_of (writeString F1 F4 b _ [32] hd (by rw [List.length_append]; omega)) ?_
        intro r F5 hd
        ((conv => whnf); repeat (first | (apply load_at; (conv => lhs; whnf); (with_reducible assumption); rfl; (conv => whnf)) | (apply load_at; (conv => lhs; rw [add_plain, add_plain]); (with_reducible assumption); rfl; (conv => whnf)) | (apply loads_at; (conv => lhs; whnf); (with_reducible assumption); rfl; (conv => whnf)) | (refine ⟨⟨by omega, by omega⟩, ?_⟩; (conv => whnf))))
        refine call_of (writeString F1 F5 b _ u hd (by rw [List.length_append, List.length_append]; omega)) ?_
        intro r F6 hd
        ((conv => whnf); repeat (first | (apply load_at; (conv => lhs; whnf); (with_reducible assumption); rfl; (conv => whnf)) | (apply load_at; (conv => lhs; rw [add_plain, add_plain]); (with_reducible assumption); rfl; (conv => whnf)) | (apply loads_at; (conv => lhs; whnf); (with_reducible assumption); rfl; (conv => whnf)) | (refine ⟨⟨by omega, by omega⟩, ?_⟩; (conv => whnf))))
        refine ⟨k - 1, by omega, j + 1, by omega, ?_, ?_⟩
        · rw [← hws]
          rfl
        · rw [htk]
          rw [List.append_assoc, List.append_assoc, ← List.append_assoc (tailL _)] at hd
          exact hd
      · have hj : j = (w2 :: ws).length := by have := of_decide_eq_false h; omega
        rw [hj, List.take_length] at hd
        obtain ⟨v, g1, g2, g3, g4⟩ := hd.own
        have hjn : (w ++ tailL (w2 :: ws)).length = T := by rw [List.length_append]; exact hwT
        ((conv => whnf); repeat (first | (apply load_at; (conv => lhs; whnf); (with_reducible assumption); rfl; (conv => whnf)) | (apply load_at; (conv => lhs; rw [add_plain, add_plain]); (with_reducible assumption); rfl; (conv => whnf)) | (apply loads_at; (conv => lhs; whnf); (with_reducible assumption); rfl; (conv => whnf)) | (refine ⟨⟨by omega, by omega⟩, ?_⟩; (conv => whnf))))
        refine call_of (string F4 b _ v _ (by intro e; rw [e] at hjn; simp at hjn; omega) (by omega) g1 g2 g3) ?_
        rintro r F5 ⟨rfl, hkeep⟩
        ((conv => whnf); repeat (first | (apply load_at; (conv => lhs; whnf); (with_reducible assumption); rfl; (conv => whnf)) | (apply load_at; (conv => lhs; rw [add_plain, add_plain]); (with_reducible assumption); rfl; (conv => whnf)) | (apply loads_at; (conv => lhs; whnf); (with_reducible assumption); rfl; (conv => whnf)) | (refine ⟨⟨by omega, by omega⟩, ?_⟩; (conv => whnf))))
        exact ⟨rfl, hkeep.ext hd.ext g4⟩
end Go.Proofs.Ytbgijjoemnfnmaa.Al
/- The writer of words: (*text.writer).nums and lines. -/
namespace Go.Proofs.Ytbgijjoemnfnmaa.Al
open Go Go.Al Go.Proofs Go.RowKit
set_option maxHeartbeats 8000000
set_option maxRecDepth 100000
set_option linter.unusedVariables false
set_option linter.unusedSimpArgs false
abbrev wrO (S : Value) : Obj := .cells #[S] 81
/-- A writer of words, in block w, that wasn't there in F0. -/
def WSt (F0 F : Heap) (w : Nat) (ws : List (List UInt8)) : Prop := ∃ S, F w = some (wrO S) ∧ F0 w = none ∧ Mine F0 F S 9 1 ws.length (txV ws)
theorem WSt.ext {F0 F : Heap} {w : Nat} {ws : List (List UInt8)} (h : WSt F0 F w ws) : Ext F0 F := by
  obtain ⟨S, h1, h2, h3⟩ := h
  exact h3.ext
theorem WSt.mono {F0 F G : Heap} {w : Nat} {ws : List (List UInt8)} (h : WSt F0 F w ws) (hE : Ext F G) : WSt F0 G w ws := by
  obtain ⟨S, h1, h2, h3⟩ := h
  exact ⟨S, hE _ _ h1, h2, h3.mono hE⟩
theorem WSt.down {F0 G F : Heap} {w : Nat} {ws : List (List UInt8)} (h : WSt G F w ws) (hE : Ext F0 G) : WSt F0 F w ws := by
  obtain ⟨S, h1, h2, h3⟩ := h
  exact ⟨S, h1, hE.none h2, h3.down hE⟩
/-- What is new stands in a larger base. -/
theorem WSt.base {F0 F F' : Heap} {w : Nat} {ws : List (List UInt8)} (h : WSt F0 F w ws) (hE : Ext F F') : ∃ G, WSt G F' w ws ∧ Ext F0 G ∧ ∀ c o, F' c = some o → F c = none → G c = some o := by
  obtain ⟨S, h1, h2, h3⟩ := h
  refine ⟨lessL F' (w :: (blk S).toList), ⟨S, hE _ _ h1, lessL_none (by simp), (h3.mono hE).up (lessL_ext _ _) fun b hb => lessL_none (by simp [hb])⟩, ext_lessL (h3.ext.trans hE) fun m hm => ?_, fun c o hc hn => ?_⟩
  · simp only [List.mem_cons, Option.mem_toList, Option.mem_def] at hm
    rcases hm with rfl | hm
    · exact h2
    · exact h3.fresh m hm
  · rw [lessL_at]
    · exact hc
    · intro hm
      simp only [List.mem_cons, Option.mem_toList, Option.mem_def] at hm
      rcases hm with rfl | hm
      · rw [h1] at hn; cases hn
      · exact h3.own.there hm hn
theorem WSt.row {F0 F F' : Heap} {w : Nat} {ws : List (List UInt8)} {A : Option Addr} {vs : List Value} (h : WSt F0 F w ws) (hE : Ext F F') (hr : RowAt F' A vs) (hA : ∀ a, A = some a → F a.block = none) : ∃ G, WSt G F' w ws ∧ Ext F0 G ∧ RowAt G A vs := by
  obtain ⟨G, h1, h2, h3⟩ := h.base hE
  refine ⟨G, h1, h2, fun j v hj => ?_⟩
  obtain ⟨a, rfl, hc⟩ := hr j v hj
  refine ⟨a, rfl, ?_⟩
  obtain ⟨cs, e, fz, g1, g2, g3⟩ := cell_block hc
  rw [(add_parts a j).1] at g1
  have h4 := h3 _ _ g1 (hA a rfl)
  unfold Heap.cell?
  rw [(add_parts a j).1, h4]
  simp only [g2, Option.isSome_none, Bool.false_eq_true, if_false]
  exact g3
theorem str_writer : (9 : Nat) ≠ 81 := by decide
theorem txV_app (a b : List (List UInt8)) : txV (a ++ b) = txV a ++ txV b := by unfold txV; rw [List.map_append]
def R64 (n : Int) : Prop := -9223372036854775808 ≤ n ∧ n < 9223372036854775808
theorem wnums (ws : List (List UInt8)) (l : List Int) (hR : ∀ n ∈ l, R64 n) (A : Option Addr) (c : Nat) (F0 F : Heap) (w : Nat) (hw : WSt F0 F w ws) (hr : RowAt F0 A (l.map (.int .i64))) (hl : ws.length + l.length ≤ 1000000) :
    FnK Try.prog 60 #[.pointer (some ⟨w, 0, none⟩), .slice A l.length c] F (fun v F' => WSt F0 F' w (ws ++ l.map txt)) := by
  (refine fn_walk tab_ok Try.func60 rfl rfl rfl rfl ?_; (conv => whnf))
  refine loop_slots [0, 6, 7, 8] (fun k vs F' => ∃ j : Nat, j + k = l.length ∧ vs = [.pointer (some ⟨w, 0, none⟩), .slice A l.length c, .int .i64 (l.length : Int), .int .i64 (j : Int)] ∧ WSt F0 F' w (ws ++ (l.take j).map txt)) l.length ⟨0, by omega, rfl, by simpa using hw⟩ ?_
  rintro k vs F2 ρ ⟨j, hjk, rfl, hw2⟩
  ((conv => whnf); repeat (first | (apply load_at; (conv => lhs; whnf); (with_reducible assumption); rfl; (conv => whnf)) | (apply load_at; (conv => lhs; rw [add_plain, add_plain]); (with_reducible assumption); rfl; (conv => whnf)) | (apply loads_at; (conv => lhs; whnf); (with_reducible assumption); rfl; (conv => whnf)) | (refine ⟨⟨by omega, by omega⟩, ?_⟩; (conv => whnf))))
  refine cond_split (fun h => ?_) (fun h => ?_)
  · have hj : j < l.length := by have := of_decide_eq_true h; omega
    obtain ⟨ad, rfl⟩ := hr.some (by rw [List.length_map]; omega)
    have hws : IntKind.i64.wrap ((j : Int) + 1) = ((j + 1 : Nat) : Int) := wrap_succ (by omega)
    have hc : F2.cell? (ad.add (Int.toNat (j : Int) * 1)) = some (.int .i64 l[j]) := by
      rw [Int.toNat_natCast, Nat.mul_one]
      exact (hr.mono hw2.ext).cell (by rw [List.getElem?_map, List.getElem?_eq_getElem hj]; rfl)
    have htk : (l.take (j + 1)).map txt = (l.take j).map txt ++ [txt l[j]] := by
      rw [List.take_add_one, List.getElem?_eq_getElem hj, List.map_append]
      rfl
    have hn := hR l[j] (List.getElem_mem hj)
    generalize l[j] = n at hc htk hn
    have ht := text n hn.1 hn.2
    obtain ⟨cur, hcur⟩ : ∃ cur, cur = ws ++ (l.take j).map txt := ⟨_, rfl⟩
    have hcl : cur.length ≤ 1000000 := by rw [hcur, List.length_append, List.length_map, List.length_take]; omega
    have htk2 : ws ++ (l.take (j + 1)).map txt = cur ++ [txt n] := by rw [htk, hcur, List.append_assoc]
    rw [← hcur] at hw2
    obtain ⟨S, hS, hS0, hM⟩ := hw2
    generalize txt n = t at ht htk2
    ((conv => whnf); repeat (first | (apply load_at; (conv => lhs; whnf); (with_reducible assumption); rfl; (conv => whnf)) | (apply load_at; (conv => lhs; rw [add_plain, add_plain]); (with_reducible assumption); rfl; (conv => whnf)) | (apply loads_at; (conv => lhs; whnf); (with_reducible assumption); rfl; (conv => whnf)) | (refine ⟨⟨by omega, by omega⟩, ?_⟩; (conv => whnf))))
    refine load_step hc ?_
    ((conv => whnf); repeat (first | (apply load_at; (conv => lhs; whnf); (with_reducible assumption); rfl; (conv => whnf)) | (apply load_at; (conv => lhs; rw [add_plain, add_plain]); (with_reducible assumption); rfl; (conv => whnf)) | (apply loads_at; (conv => lhs; whnf); (with_reducible assumption); rfl; (conv => whnf)) | (refine ⟨⟨by omega, by omega⟩, ?_⟩; (conv => whnf))))
    refine draw_cut (fun env' F' => env' 0 = .pointer (some ⟨w, 0, none⟩) ∧ env' 6 = .slice (some ad) l.length c ∧ env' 7 = .int .i64 (l.length : Int) ∧ env' 8 = .int .i64 (j : Int) ∧ WSt F0 F' w (cur ++ [t])) (fun K hK => ?_) ?_
    · refine draw_tree_at tab_ok (by kernel_rfl) [4, 1000] (DT.row [0, 1, 2, 3, 4, 5, 6, 7, 8, 9, 10, 11] .nil) (by kernel_rfl) (F2.only w) (only_ext rfl) ?_
      ((conv => whnf); repeat (first | (apply load_at; (conv => lhs; whnf); (with_reducible assumption); rfl; (conv => whnf)) | (apply load_at; (conv => lhs; rw [add_plain, add_plain]); (with_reducible assumption); rfl; (conv => whnf)) | (apply loads_at; (conv => lhs; whnf); (with_reducible assumption); rfl; (conv => whnf)) | (refine ⟨⟨by omega, by omega⟩, ?_⟩; (conv => whnf))))
      refine load_blk (only_at hS) rfl rfl ?_
      ((conv => whnf); repeat (first | (apply load_at; (conv => lhs; whnf); (with_reducible assumption); rfl; (conv => whnf)) | (apply load_at; (conv => lhs; rw [add_plain, add_plain]); (with_reducible assumption); rfl; (conv => whnf)) | (apply loads_at; (conv => lhs; whnf); (with_reducible assumption); rfl; (conv => whnf)) | (refine ⟨⟨by omega, by omega⟩, ?_⟩; (conv => whnf))))
      refine call_of (ht F2) ?_
      rintro v F3 ⟨rfl, hE3⟩
      refine ⟨(only_ext rfl).trans hE3, ?_⟩
      have hS3 := hE3 _ _ hS
      have hM3 := hM.mono hE3
      ((conv => whnf); repeat (first | (apply load_at; (conv => lhs; whnf); (with_reducible assumption); rfl; (conv => whnf)) | (apply load_at; (conv => lhs; rw [add_plain, add_plain]); (with_reducible assumption); rfl; (conv => whnf)) | (apply loads_at; (conv => lhs; whnf); (with_reducible assumption); rfl; (conv => whnf)) | (refine ⟨⟨by omega, by omega⟩, ?_⟩; (conv => whnf))))
      refine new_step (.cells #[str t] 9) rfl fun g h0_g => ?_
      have hE_g := Ext.new h0_g (.cells #[str t] 9)
      have hB_g := Heap.put_same F3 g (.cells #[str t] 9)
      generalize F3.put g _ = F4 at hE_g hB_g ⊢
      have hS4 := hE_g _ _ hS3
      have hM4 := hM3.mono hE_g
      refine ⟨((only_ext rfl).trans hE3).trans hE_g, ?_⟩
      ((conv => whnf); repeat (first | (apply load_at; (conv => lhs; whnf); (with_reducible assumption); rfl; (conv => whnf)) | (apply load_at; (conv => lhs; rw [add_plain, add_plain]); (with_reducible assumption); rfl; (conv => whnf)) | (apply loads_at; (conv => lhs; whnf); (with_reducible assumption); rfl; (conv => whnf)) | (refine ⟨⟨by omega, by omega⟩, ?_⟩; (conv => whnf))))
      refine append_mine tab_ok rfl rfl rfl rfl rfl ⟨_, rfl, fun k h => by cases h⟩ ⟨_, rfl, rfl⟩ (by decide) hM4 (m := 1) (ys := [str t]) (y := .slice (some ⟨g, 0, none⟩) 1 1) ⟨rfl, .inl ⟨_, _, rfl, row_blk hB_g⟩⟩ (one_str _) (by show 2 * (cur.length + 1) * 16 ≤ _; omega) fun S5 F5 hM5 hk5 => ?_
      have hS5 := hk5 _ _ hS4 (hM4.own.blk_ne hS4 str_writer)
      have hne5 := hM5.own.blk_ne hS5 str_writer
      obtain ⟨A5, c5, rfl, _⟩ := hM5.own.row
      ((conv => whnf); repeat (first | (apply load_at; (conv => lhs; whnf); (with_reducible assumption); rfl; (conv => whnf)) | (apply load_at; (conv => lhs; rw [add_plain, add_plain]); (with_reducible assumption); rfl; (conv => whnf)) | (apply loads_at; (conv => lhs; whnf); (with_reducible assumption); rfl; (conv => whnf)) | (refine ⟨⟨by omega, by omega⟩, ?_⟩; (conv => whnf))))
      refine store_step w 0 _ #[.slice A5 (cur.length + 1) c5] rfl hS5 rfl rfl (.inl (Nat.le_refl 0)) (one_slice _ _ _) ?_
      have hM6 := hM5.put hS0 hne5 (wrO (.slice A5 (cur.length + 1) c5))
      have hS6 := Heap.put_same F5 w (wrO (.slice A5 (cur.length + 1) c5))
      generalize F5.put w _ = F6 at hM6 hS6 ⊢
      ((conv => whnf); repeat (first | (apply load_at; (conv => lhs; whnf); (with_reducible assumption); rfl; (conv => whnf)) | (apply load_at; (conv => lhs; rw [add_plain, add_plain]); (with_reducible assumption); rfl; (conv => whnf)) | (apply loads_at; (conv => lhs; whnf); (with_reducible assumption); rfl; (conv => whnf)) | (refine ⟨⟨by omega, by omega⟩, ?_⟩; (conv => whnf))))
      refine hK _ _ ?_
      exact ⟨rfl, rfl, rfl, rfl, _, hS6, hS0, by rw [List.length_append, List.length_singleton, txV_app]; exact hM6⟩
    rintro env' F6 ⟨q0, q6, q7, q8, hw6⟩
    refine short [0, 6, 7, 8] [.pointer (some ⟨w, 0, none⟩), .slice (some ad) l.length c, .int .i64 (l.length : Int), .int .i64 (j : Int)] (by simp only [List.map_cons, List.map_nil, q0, q6, q7, q8]) fun ρ => ?_
    ((conv => whnf); repeat (first | (apply load_at; (conv => lhs; whnf); (with_reducible assumption); rfl; (conv => whnf)) | (apply load_at; (conv => lhs; rw [add_plain, add_plain]); (with_reducible assumption); rfl; (conv => whnf)) | (apply loads_at; (conv => lhs; whnf); (with_reducible assumption); rfl; (conv => whnf)) | (refine ⟨⟨by omega, by omega⟩, ?_⟩; (conv => whnf))))
    refine ⟨k - 1, by omega, j + 1, by omega, ?_, ?_⟩
    · rw [← hws]
      rfl
    · rw [htk2]
      exact hw6
  · have hj : j = l.length := by have := of_decide_eq_false h; omega
    rw [hj, List.take_length] at hw2
    ((conv => whnf); repeat (first | (apply load_at; (conv => lhs; whnf); (with_reducible assumption); rfl; (conv => whnf)) | (apply load_at; (conv => lhs; rw [add_plain, add_plain]); (with_reducible assumption); rfl; (conv => whnf)) | (apply loads_at; (conv => lhs; whnf); (with_reducible assumption); rfl; (conv => whnf)) | (refine ⟨⟨by omega, by omega⟩, ?_⟩; (conv => whnf))))
    exact hw2
end Go.Proofs.Ytbgijjoemnfnmaa.Al
/- The writer of words: (*text.writer).lines. -/
namespace Go.Proofs.Ytbgijjoemnfnmaa.Al
open Go Go.Al Go.Proofs Go.RowKit
set_option maxHeartbeats 8000000
set_option maxRecDepth 100000
set_option linter.unusedVariables false
set_option linter.unusedSimpArgs false
def numsW (thr : Bool) (l : LD) : List Int := if thr = true then [l.f, l.o, l.a] else [l.n, l.a]
def linesW (thr : Bool) (ls : List LD) : List (List UInt8) := ls.flatMap fun l => (numsW thr l).map txt
def LnR (l : LD) : Prop := R64 l.f ∧ R64 l.o ∧ R64 l.n ∧ R64 l.a
theorem linesW_take (thr : Bool) (ls : List LD) (j : Nat) (l : LD) (h : ls[j]? = some l) : linesW thr (ls.take (j + 1)) = linesW thr (ls.take j) ++ (numsW thr l).map txt := by
  unfold linesW
  rw [List.take_add_one, h]
  simp
theorem linesW_len (thr : Bool) (ls : List LD) : (linesW thr ls).length ≤ 3 * ls.length := by
  unfold linesW
  induction ls with
  | nil => exact Nat.le_refl _
  | cons l ls ih =>
    rw [List.flatMap_cons, List.length_append, List.length_cons, List.length_map]
    have : (numsW thr l).length ≤ 3 := by unfold numsW; split <;> simp
    omega
theorem wlines (thr : Bool) (ws : List (List UInt8)) (ls : List LD) (hR : ∀ l ∈ ls, LnR l) (A : Option Addr) (c : Nat) (F0 F : Heap) (w : Nat) (hw : WSt F0 F w ws) (hr : RowAt F0 A (linesV ls)) (hl : ws.length + 3 * ls.length ≤ 900000) :
    FnK Try.prog 59 #[.pointer (some ⟨w, 0, none⟩), .slice A ls.length c, .int .i64 (thrF thr : Int)] F (fun v F' => WSt F0 F' w (ws ++ linesW thr ls)) := by
  (refine fn_walk tab_ok Try.func59 rfl rfl rfl rfl ?_; (conv => whnf))
  refine loop_slots [0, 2, 8, 9, 10] (fun k vs F' => ∃ j : Nat, j + k = ls.length ∧ vs = [.pointer (some ⟨w, 0, none⟩), .int .i64 (thrF thr : Int), .slice A ls.length c, .int .i64 (ls.length : Int), .int .i64 (j : Int)] ∧ WSt F0 F' w (ws ++ linesW thr (ls.take j))) ls.length ⟨0, by omega, rfl, by rw [List.take_zero]; show WSt F0 F w (ws ++ []); rw [List.append_nil]; exact hw⟩ ?_
  rintro k vs F2 ρ ⟨j, hjk, rfl, hw2⟩
  ((conv => whnf); repeat (first | (apply load_at; (conv => lhs; whnf); (with_reducible assumption); rfl; (conv => whnf)) | (apply load_at; (conv => lhs; rw [add_plain, add_plain]); (with_reducible assumption); rfl; (conv => whnf)) | (apply loads_at; (conv => lhs; whnf); (with_reducible assumption); rfl; (conv => whnf)) | (refine ⟨⟨by omega, by omega⟩, ?_⟩; (conv => whnf))))
  refine cond_split (fun h => ?_) (fun h => ?_)
  · have hj : j < ls.length := by have := of_decide_eq_true h; omega
    obtain ⟨ad, rfl⟩ := hr.some (by rw [linesV_len]; omega)
    have hws : IntKind.i64.wrap ((j : Int) + 1) = ((j + 1 : Nat) : Int) := wrap_succ (by omega)
    have hL := fun K hk => line_load (K := K) (hr.mono hw2.ext) hj hk
    have htk := linesW_take thr ls j ls[j] (List.getElem?_eq_getElem hj)
    have hlr := hR ls[j] (List.getElem_mem hj)
    have hlw := linesW_len thr (ls.take j)
    rw [List.length_take] at hlw
    generalize ls[j] = q at hL htk hlr
    obtain ⟨qf, qo, qn, qa⟩ := q
    obtain ⟨r1, r2, r3, r4⟩ := hlr
    have hL' : ∀ K : Value → Prop, K (.agg #[.int .i64 qf, .int .i64 qo, .int .i64 qn, .int .i64 qa]) → LoadsK F2 (ad.add (Int.toNat (j : Int) * 4)) 4 K := fun K hk => by
      rw [Int.toNat_natCast]
      exact hL K hk
    ((conv => whnf); repeat (first | (apply load_at; (conv => lhs; whnf); (with_reducible assumption); rfl; (conv => whnf)) | (apply load_at; (conv => lhs; rw [add_plain, add_plain]); (with_reducible assumption); rfl; (conv => whnf)) | (apply loads_at; (conv => lhs; whnf); (with_reducible assumption); rfl; (conv => whnf)) | (refine ⟨⟨by omega, by omega⟩, ?_⟩; (conv => whnf))))
    refine hL' _ ?_
    ((conv => whnf); repeat (first | (apply load_at; (conv => lhs; whnf); (with_reducible assumption); rfl; (conv => whnf)) | (apply load_at; (conv => lhs; rw [add_plain, add_plain]); (with_reducible assumption); rfl; (conv => whnf)) | (apply loads_at; (conv => lhs; whnf); (with_reducible assumption); rfl; (conv => whnf)) | (refine ⟨⟨by omega, by omega⟩, ?_⟩; (conv => whnf))))
    refine new_step (lineO 0 0 0 0) rfl fun x h0_x => ?_
    have hE_x := Ext.new h0_x (lineO 0 0 0 0)
    have hB_x := Heap.put_same F2 x (lineO 0 0 0 0)
    generalize F2.put x _ = F3 at hE_x hB_x ⊢
    ((conv => whnf); repeat (first | (apply load_at; (conv => lhs; whnf); (with_reducible assumption); rfl; (conv => whnf)) | (apply load_at; (conv => lhs; rw [add_plain, add_plain]); (with_reducible assumption); rfl; (conv => whnf)) | (apply loads_at; (conv => lhs; whnf); (with_reducible assumption); rfl; (conv => whnf)) | (refine ⟨⟨by omega, by omega⟩, ?_⟩; (conv => whnf))))
    refine store_step x 0 _ #[.int .i64 qf, .int .i64 qo, .int .i64 qn, .int .i64 qa] rfl hB_x rfl rfl (.inl (Nat.le_refl 0)) (one_line ⟨qf, qo, qn, qa⟩) ?_
    have hB4 := Heap.put_same F3 x (lineO qf qo qn qa)
    have hE4 : Ext F2 (F3.put x (lineO qf qo qn qa)) := hE_x.put h0_x _
    generalize F3.put x _ = F4 at hB4 hE4 ⊢
    have hw4 := hw2.mono hE4
    have htk2 : ws ++ linesW thr (ls.take (j + 1)) = ws ++ linesW thr (ls.take j) ++ (numsW thr ⟨qf, qo, qn, qa⟩).map txt := by rw [htk, List.append_assoc]
    obtain ⟨cur, hcur⟩ : ∃ cur, cur = ws ++ linesW thr (ls.take j) := ⟨_, rfl⟩
    have hcl : cur.length ≤ 900000 := by rw [hcur, List.length_append]; omega
    rw [← hcur] at hw4 htk2
    cases thr with
    | true =>
      ((conv => whnf); repeat (first | (apply load_at; (conv => lhs; whnf); (with_reducible assumption); rfl; (conv => whnf)) | (apply load_at; (conv => lhs; rw [add_plain, add_plain]); (with_reducible assumption); rfl; (conv => whnf)) | (apply loads_at; (conv => lhs; whnf); (with_reducible assumption); rfl; (conv => whnf)) | (refine ⟨⟨by omega, by omega⟩, ?_⟩; (conv => whnf))))
      refine new_step (.cells (([qf, qo, qa] : List Int).map (Value.int .i64)).toArray 3) rfl fun g h0_g => ?_
      have hE_g := Ext.new h0_g (.cells (([qf, qo, qa] : List Int).map (Value.int .i64)).toArray 3)
      have hB_g := Heap.put_same F4 g (.cells (([qf, qo, qa] : List Int).map (Value.int .i64)).toArray 3)
      generalize F4.put g _ = F5 at hE_g hB_g ⊢
      obtain ⟨G, hwG, hEG, hrG⟩ := hw4.row hE_g (row_new hB_g) (fun a ha => by cases ha; exact h0_g)
      ((conv => whnf); repeat (first | (apply load_at; (conv => lhs; whnf); (with_reducible assumption); rfl; (conv => whnf)) | (apply load_at; (conv => lhs; rw [add_plain, add_plain]); (with_reducible assumption); rfl; (conv => whnf)) | (apply loads_at; (conv => lhs; whnf); (with_reducible assumption); rfl; (conv => whnf)) | (refine ⟨⟨by omega, by omega⟩, ?_⟩; (conv => whnf))))
      refine call_of (wnums cur [qf, qo, qa] (by intro n hn; simp only [List.mem_cons, List.not_mem_nil, or_false] at hn; rcases hn with rfl | rfl | rfl <;> assumption) (some ⟨g, 0, none⟩) 3 G F5 w hwG hrG (by simp only [List.length_cons, List.length_nil]; omega)) ?_
      rintro v F6 hw6
      replace hw6 := hw6.down hEG
      ((conv => whnf); repeat (first | (apply load_at; (conv => lhs; whnf); (with_reducible assumption); rfl; (conv => whnf)) | (apply load_at; (conv => lhs; rw [add_plain, add_plain]); (with_reducible assumption); rfl; (conv => whnf)) | (apply loads_at; (conv => lhs; whnf); (with_reducible assumption); rfl; (conv => whnf)) | (refine ⟨⟨by omega, by omega⟩, ?_⟩; (conv => whnf))))
      refine ⟨k - 1, by omega, j + 1, by omega, ?_, ?_⟩
      · rw [← hws]
        rfl
      · rw [htk2]
        exact hw6
    | false =>
      ((conv => whnf); repeat (first | (apply load_at; (conv => lhs; whnf); (with_reducible assumption); rfl; (conv => whnf)) | (apply load_at; (conv => lhs; rw [add_plain, add_plain]); (with_reducible assumption); rfl; (conv => whnf)) | (apply loads_at; (conv => lhs; whnf); (with_reducible assumption); rfl; (conv => whnf)) | (refine ⟨⟨by omega, by omega⟩, ?_⟩; (conv => whnf))))
      refine new_step (.cells (([qn, qa] : List Int).map (Value.int .i64)).toArray 3) rfl fun g h0_g => ?_
      have hE_g := Ext.new h0_g (.cells (([qn, qa] : List Int).map (Value.int .i64)).toArray 3)
      have hB_g := Heap.put_same F4 g (.cells (([qn, qa] : List Int).map (Value.int .i64)).toArray 3)
      generalize F4.put g _ = F5 at hE_g hB_g ⊢
      obtain ⟨G, hwG, hEG, hrG⟩ := hw4.row hE_g (row_new hB_g) (fun a ha => by cases ha; exact h0_g)
      ((conv => whnf); repeat (first | (apply load_at; (conv => lhs; whnf); (with_reducible assumption); rfl; (conv => whnf)) | (apply load_at; (conv => lhs; rw [add_plain, add_plain]); (with_reducible assumption); rfl; (conv => whnf)) | (apply loads_at; (conv => lhs; whnf); (with_reducible assumption); rfl; (conv => whnf)) | (refine ⟨⟨by omega, by omega⟩, ?_⟩; (conv => whnf))))
      refine call_of (wnums cur [qn, qa] (by intro n hn; simp only [List.mem_cons, List.not_mem_nil, or_false] at hn; rcases hn with rfl | rfl <;> assumption) (some ⟨g, 0, none⟩) 2 G F5 w hwG hrG (by simp only [List.length_cons, List.length_nil]; omega)) ?_
      rintro v F6 hw6
      replace hw6 := hw6.down hEG
      ((conv => whnf); repeat (first | (apply load_at; (conv => lhs; whnf); (with_reducible assumption); rfl; (conv => whnf)) | (apply load_at; (conv => lhs; rw [add_plain, add_plain]); (with_reducible assumption); rfl; (conv => whnf)) | (apply loads_at; (conv => lhs; whnf); (with_reducible assumption); rfl; (conv => whnf)) | (refine ⟨⟨by omega, by omega⟩, ?_⟩; (conv => whnf))))
      refine ⟨k - 1, by omega, j + 1, by omega, ?_, ?_⟩
      · rw [← hws]
        rfl
      · rw [htk2]
        exact hw6
  · have hj : j = ls.length := by have := of_decide_eq_false h; omega
    rw [hj, List.take_length] at hw2
    ((conv => whnf); repeat (first | (apply load_at; (conv => lhs; whnf); (with_reducible assumption); rfl; (conv => whnf)) | (apply load_at; (conv => lhs; rw [add_plain, add_plain]); (with_reducible assumption); rfl; (conv => whnf)) | (apply loads_at; (conv => lhs; whnf); (with_reducible assumption); rfl; (conv => whnf)) | (refine ⟨⟨by omega, by omega⟩, ?_⟩; (conv => whnf))))
    exact hw2
end Go.Proofs.Ytbgijjoemnfnmaa.Al
/- The writer of words: (*text.writer).field. -/
namespace Go.Proofs.Ytbgijjoemnfnmaa.Al
open Go Go.Al Go.Proofs Go.RowKit
set_option maxHeartbeats 8000000
set_option maxRecDepth 100000
set_option linter.unusedVariables false
set_option linter.unusedSimpArgs false
def numF (c : CD) (f : Nat) : Int := match f with
  | 0 => c.y
  | 1 => c.x
  | 2 => c.f
  | 3 => c.o
  | 4 => c.n
  | 5 => c.p
  | 6 => c.d
  | 7 => c.l
  | _ => c.a
def fieldW (c : CD) (f : Nat) : List (List UInt8) :=
  if f = 10 then [c.nm] else if f = 9 then [if c.ab = true then yesL else noL] else if f = 11 then linesW true c.ls else if f = 12 then linesW false c.ls else [txt (numF c f)]
structure CdR (c : CD) : Prop where
  y : R64 c.y
  x : R64 c.x
  f : R64 c.f
  o : R64 c.o
  n : R64 c.n
  p : R64 c.p
  d : R64 c.d
  l : R64 c.l
  a : R64 c.a
  ls : ∀ q ∈ c.ls, LnR q
theorem CdR.num {c : CD} (h : CdR c) (f : Nat) : R64 (numF c f) := by
  unfold numF
  split
  · exact h.y
  · exact h.x
  · exact h.f
  · exact h.o
  · exact h.n
  · exact h.p
  · exact h.d
  · exact h.l
  · exact h.a
theorem fieldW_len (c : CD) (f : Nat) : (fieldW c f).length ≤ 1 + 3 * c.ls.length := by
  unfold fieldW
  split
  · simp only [List.length_cons, List.length_nil]; omega
  split
  · simp only [List.length_cons, List.length_nil]; omega
  split
  · have := linesW_len true c.ls; omega
  split
  · have := linesW_len false c.ls; omega
  · simp only [List.length_cons, List.length_nil]; omega
theorem push_new {F0 : Heap} {w : Nat} {ws : List (List UInt8)} {t : List UInt8} {A5 : Option Addr} {c5 : Nat} {F5 : Heap} (hS0 : F0 w = none) (hM5 : Mine F0 F5 (.slice A5 (ws.length + 1) c5) 9 1 (ws.length + 1) (txV ws ++ [str t])) (hne : blk (.slice A5 (ws.length + 1) c5) ≠ some w) : WSt F0 (F5.put w (wrO (.slice A5 (ws.length + 1) c5))) w (ws ++ [t]) :=
  ⟨_, Heap.put_same _ _ _, hS0, by
    rw [List.length_append, List.length_singleton, txV_app]
    exact hM5.put hS0 hne _⟩
theorem wfield10 (ws : List (List UInt8)) (cd : CD) (A : Option Addr) (c : Nat) (F0 F : Heap) (w : Nat) (hw : WSt F0 F w ws) (hl : ws.length ≤ 900000) :
    FnK Try.prog 45 #[.pointer (some ⟨w, 0, none⟩), aggOf cd A c, .int .i64 10] F (fun v F' => WSt F0 F' w (ws ++ fieldW cd 10)) := by
  obtain ⟨k, y, x, f, o, n, p, d, l, a, ab, nm, ls⟩ := cd
  have hfw : fieldW ⟨k, y, x, f, o, n, p, d, l, a, ab, nm, ls⟩ 10 = [nm] := rfl
  rw [hfw]
  (refine fn_walk tab_ok Try.func45 rfl rfl rfl rfl ?_; (conv => whnf))
  refine new_step (cmdO k y x f o n p d l a ab ⟨nm.toArray⟩ (.slice A ls.length c)) rfl fun b h0_b => ?_
  have hE_b := Ext.new h0_b (cmdO k y x f o n p d l a ab ⟨nm.toArray⟩ (.slice A ls.length c))
  have hB_b := Heap.put_same F b (cmdO k y x f o n p d l a ab ⟨nm.toArray⟩ (.slice A ls.length c))
  generalize F.put b _ = F1 at hE_b hB_b ⊢
  obtain ⟨S, hS, hS0, hM⟩ := hw.mono hE_b
  ((conv => whnf); repeat (first | (apply load_at; (conv => lhs; whnf); (with_reducible assumption); rfl; (conv => whnf)) | (apply load_at; (conv => lhs; rw [add_plain, add_plain]); (with_reducible assumption); rfl; (conv => whnf)) | (apply loads_at; (conv => lhs; whnf); (with_reducible assumption); rfl; (conv => whnf)) | (refine ⟨⟨by omega, by omega⟩, ?_⟩; (conv => whnf))))
  refine draw_cut (fun env' F' => WSt F0 F' w (ws ++ [nm])) (fun K hK => ?_) ?_
  · refine draw_tree tab_ok (by kernel_rfl) [4, 6, 1000] (DT.row [0, 1, 2, 3, 4, 5, 6, 7, 8, 9, 10, 11] .nil) (by kernel_rfl) ?_
    ((conv => whnf); repeat (first | (apply load_at; (conv => lhs; whnf); (with_reducible assumption); rfl; (conv => whnf)) | (apply load_at; (conv => lhs; rw [add_plain, add_plain]); (with_reducible assumption); rfl; (conv => whnf)) | (apply loads_at; (conv => lhs; whnf); (with_reducible assumption); rfl; (conv => whnf)) | (refine ⟨⟨by omega, by omega⟩, ?_⟩; (conv => whnf))))
    refine new_step (.cells #[str nm] 9) rfl fun g h0_g => ?_
    have hE_g := Ext.new h0_g (.cells #[str nm] 9)
    have hB_g := Heap.put_same F1 g (.cells #[str nm] 9)
    generalize F1.put g _ = F4 at hE_g hB_g ⊢
    refine ⟨hE_g, ?_⟩
    have hS4 := hE_g _ _ hS
    have hM4 := hM.mono hE_g
    ((conv => whnf); repeat (first | (apply load_at; (conv => lhs; whnf); (with_reducible assumption); rfl; (conv => whnf)) | (apply load_at; (conv => lhs; rw [add_plain, add_plain]); (with_reducible assumption); rfl; (conv => whnf)) | (apply loads_at; (conv => lhs; whnf); (with_reducible assumption); rfl; (conv => whnf)) | (refine ⟨⟨by omega, by omega⟩, ?_⟩; (conv => whnf))))
    refine append_mine tab_ok rfl rfl rfl rfl rfl ⟨_, rfl, fun k h => by cases h⟩ ⟨_, rfl, rfl⟩ (by decide) hM4 (m := 1) (ys := [str nm]) (y := .slice (some ⟨g, 0, none⟩) 1 1) ⟨rfl, .inl ⟨_, _, rfl, row_blk hB_g⟩⟩ (one_str _) (by show 2 * (ws.length + 1) * 16 ≤ _; omega) fun S5 F5 hM5 hk5 => ?_
    have hS5 := hk5 _ _ hS4 (hM4.own.blk_ne hS4 str_writer)
    have hne5 := hM5.own.blk_ne hS5 str_writer
    obtain ⟨A5, c5, rfl, _⟩ := hM5.own.row
    ((conv => whnf); repeat (first | (apply load_at; (conv => lhs; whnf); (with_reducible assumption); rfl; (conv => whnf)) | (apply load_at; (conv => lhs; rw [add_plain, add_plain]); (with_reducible assumption); rfl; (conv => whnf)) | (apply loads_at; (conv => lhs; whnf); (with_reducible assumption); rfl; (conv => whnf)) | (refine ⟨⟨by omega, by omega⟩, ?_⟩; (conv => whnf))))
    refine store_step w 0 _ #[.slice A5 (ws.length + 1) c5] rfl hS5 rfl rfl (.inl (Nat.le_refl 0)) (one_slice _ _ _) ?_
    ((conv => whnf); repeat (first | (apply load_at; (conv => lhs; whnf); (with_reducible assumption); rfl; (conv => whnf)) | (apply load_at; (conv => lhs; rw [add_plain, add_plain]); (with_reducible assumption); rfl; (conv => whnf)) | (apply loads_at; (conv => lhs; whnf); (with_reducible assumption); rfl; (conv => whnf)) | (refine ⟨⟨by omega, by omega⟩, ?_⟩; (conv => whnf))))
    refine hK _ _ ?_
    exact push_new hS0 hM5 hne5
  rintro env' F6 hw6
  refine short [] [] rfl fun ρ => ?_
  ((conv => whnf); repeat (first | (apply load_at; (conv => lhs; whnf); (with_reducible assumption); rfl; (conv => whnf)) | (apply load_at; (conv => lhs; rw [add_plain, add_plain]); (with_reducible assumption); rfl; (conv => whnf)) | (apply loads_at; (conv => lhs; whnf); (with_reducible assumption); rfl; (conv => whnf)) | (refine ⟨⟨by omega, by omega⟩, ?_⟩; (conv => whnf))))
  exact hw6
theorem wfield9 (ws : List (List UInt8)) (cd : CD) (A : Option Addr) (c : Nat) (F0 F : Heap) (w : Nat) (hw : WSt F0 F w ws) (hl : ws.length ≤ 900000) :
    FnK Try.prog 45 #[.pointer (some ⟨w, 0, none⟩), aggOf cd A c, .int .i64 9] F (fun v F' => WSt F0 F' w (ws ++ fieldW cd 9)) := by
  obtain ⟨k, y, x, f, o, n, p, d, l, a, ab, nm, ls⟩ := cd
  have hfw : fieldW ⟨k, y, x, f, o, n, p, d, l, a, ab, nm, ls⟩ 9 = [if ab = true then yesL else noL] := rfl
  rw [hfw]
  cases ab with
  | true =>
    (refine fn_walk tab_ok Try.func45 rfl rfl rfl rfl ?_; (conv => whnf))
    refine new_step (cmdO k y x f o n p d l a true ⟨nm.toArray⟩ (.slice A ls.length c)) rfl fun b h0_b => ?_
    have hE_b := Ext.new h0_b (cmdO k y x f o n p d l a true ⟨nm.toArray⟩ (.slice A ls.length c))
    have hB_b := Heap.put_same F b (cmdO k y x f o n p d l a true ⟨nm.toArray⟩ (.slice A ls.length c))
    generalize F.put b _ = F1 at hE_b hB_b ⊢
    obtain ⟨S, hS, hS0, hM⟩ := hw.mono hE_b
    ((conv => whnf); repeat (first | (apply load_at; (conv => lhs; whnf); (with_reducible assumption); rfl; (conv => whnf)) | (apply load_at; (conv => lhs; rw [add_plain, add_plain]); (with_reducible assumption); rfl; (conv => whnf)) | (apply loads_at; (conv => lhs; whnf); (with_reducible assumption); rfl; (conv => whnf)) | (refine ⟨⟨by omega, by omega⟩, ?_⟩; (conv => whnf))))
    refine new_step (.cells #[str yesL] 9) rfl fun g h0_g => ?_
    have hE_g := Ext.new h0_g (.cells #[str yesL] 9)
    have hB_g := Heap.put_same F1 g (.cells #[str yesL] 9)
    generalize F1.put g _ = F4 at hE_g hB_g ⊢
    have hS4 := hE_g _ _ hS
    have hM4 := hM.mono hE_g
    ((conv => whnf); repeat (first | (apply load_at; (conv => lhs; whnf); (with_reducible assumption); rfl; (conv => whnf)) | (apply load_at; (conv => lhs; rw [add_plain, add_plain]); (with_reducible assumption); rfl; (conv => whnf)) | (apply loads_at; (conv => lhs; whnf); (with_reducible assumption); rfl; (conv => whnf)) | (refine ⟨⟨by omega, by omega⟩, ?_⟩; (conv => whnf))))
    refine append_mine tab_ok rfl rfl rfl rfl rfl ⟨_, rfl, fun k h => by cases h⟩ ⟨_, rfl, rfl⟩ (by decide) hM4 (m := 1) (ys := [str yesL]) (y := .slice (some ⟨g, 0, none⟩) 1 1) ⟨rfl, .inl ⟨_, _, rfl, row_blk hB_g⟩⟩ (one_str _) (by show 2 * (ws.length + 1) * 16 ≤ _; omega) fun S5 F5 hM5 hk5 => ?_
    have hS5 := hk5 _ _ hS4 (hM4.own.blk_ne hS4 str_writer)
    have hne5 := hM5.own.blk_ne hS5 str_writer
    obtain ⟨A5, c5, rfl, _⟩ := hM5.own.row
    ((conv => whnf); repeat (first | (apply load_at; (conv => lhs; whnf); (with_reducible assumption); rfl; (conv => whnf)) | (apply load_at; (conv => lhs; rw [add_plain, add_plain]); (with_reducible assumption); rfl; (conv => whnf)) | (apply loads_at; (conv => lhs; whnf); (with_reducible assumption); rfl; (conv => whnf)) | (refine ⟨⟨by omega, by omega⟩, ?_⟩; (conv => whnf))))
    refine store_step w 0 _ #[.slice A5 (ws.length + 1) c5] rfl hS5 rfl rfl (.inl (Nat.le_refl 0)) (one_slice _ _ _) ?_
    ((conv => whnf); repeat (first | (apply load_at; (conv => lhs; whnf); (with_reducible assumption); rfl; (conv => whnf)) | (apply load_at; (conv => lhs; rw [add_plain, add_plain]); (with_reducible assumption); rfl; (conv => whnf)) | (apply loads_at; (conv => lhs; whnf); (with_reducible assumption); rfl; (conv => whnf)) | (refine ⟨⟨by omega, by omega⟩, ?_⟩; (conv => whnf))))
    exact push_new hS0 hM5 hne5
  | false =>
    (refine fn_walk tab_ok Try.func45 rfl rfl rfl rfl ?_; (conv => whnf))
    refine new_step (cmdO k y x f o n p d l a false ⟨nm.toArray⟩ (.slice A ls.length c)) rfl fun b h0_b => ?_
    have hE_b := Ext.new h0_b (cmdO k y x f o n p d l a false ⟨nm.toArray⟩ (.slice A ls.length c))
    have hB_b := Heap.put_same F b (cmdO k y x f o n p d l a false ⟨nm.toArray⟩ (.slice A ls.length c))
    generalize F.put b _ = F1 at hE_b hB_b ⊢
    obtain ⟨S, hS, hS0, hM⟩ := hw.mono hE_b
    ((conv => whnf); repeat (first | (apply load_at; (conv => lhs; whnf); (with_reducible assumption); rfl; (conv => whnf)) | (apply load_at; (conv => lhs; rw [add_plain, add_plain]); (with_reducible assumption); rfl; (conv => whnf)) | (apply loads_at; (conv => lhs; whnf); (with_reducible assumption); rfl; (conv => whnf)) | (refine ⟨⟨by omega, by omega⟩, ?_⟩; (conv => whnf))))
    refine new_step (.cells #[str noL] 9) rfl fun g h0_g => ?_
    have hE_g := Ext.new h0_g (.cells #[str noL] 9)
    have hB_g := Heap.put_same F1 g (.cells #[str noL] 9)
    generalize F1.put g _ = F4 at hE_g hB_g ⊢
    have hS4 := hE_g _ _ hS
    have hM4 := hM.mono hE_g
    ((conv => whnf); repeat (first | (apply load_at; (conv => lhs; whnf); (with_reducible assumption); rfl; (conv => whnf)) | (apply load_at; (conv => lhs; rw [add_plain, add_plain]); (with_reducible assumption); rfl; (conv => whnf)) | (apply loads_at; (conv => lhs; whnf); (with_reducible assumption); rfl; (conv => whnf)) | (refine ⟨⟨by omega, by omega⟩, ?_⟩; (conv => whnf))))
    refine append_mine tab_ok rfl rfl rfl rfl rfl ⟨_, rfl, fun k h => by cases h⟩ ⟨_, rfl, rfl⟩ (by decide) hM4 (m := 1) (ys := [str noL]) (y := .slice (some ⟨g, 0, none⟩) 1 1) ⟨rfl, .inl ⟨_, _, rfl, row_blk hB_g⟩⟩ (one_str _) (by show 2 * (ws.length + 1) * 16 ≤ _; omega) fun S5 F5 hM5 hk5 => ?_
    have hS5 := hk5 _ _ hS4 (hM4.own.blk_ne hS4 str_writer)
    have hne5 := hM5.own.blk_ne hS5 str_writer
    obtain ⟨A5, c5, rfl, _⟩ := hM5.own.row
    ((conv => whnf); repeat (first | (apply load_at; (conv => lhs; whnf); (with_reducible assumption); rfl; (conv => whnf)) | (apply load_at; (conv => lhs; rw [add_plain, add_plain]); (with_reducible assumption); rfl; (conv => whnf)) | (apply loads_at; (conv => lhs; whnf); (with_reducible assumption); rfl; (conv => whnf)) | (refine ⟨⟨by omega, by omega⟩, ?_⟩; (conv => whnf))))
    refine store_step w 0 _ #[.slice A5 (ws.length + 1) c5] rfl hS5 rfl rfl (.inl (Nat.le_refl 0)) (one_slice _ _ _) ?_
    ((conv => whnf); repeat (first | (apply load_at; (conv => lhs; whnf); (with_reducible assumption); rfl; (conv => whnf)) | (apply load_at; (conv => lhs; rw [add_plain, add_plain]); (with_reducible assumption); rfl; (conv => whnf)) | (apply loads_at; (conv => lhs; whnf); (with_reducible assumption); rfl; (conv => whnf)) | (refine ⟨⟨by omega, by omega⟩, ?_⟩; (conv => whnf))))
    exact push_new hS0 hM5 hne5
theorem wfieldL (thr : Bool) (ws : List (List UInt8)) (cd : CD) (hR : CdR cd) (A : Option Addr) (c : Nat) (F0 F : Heap) (w : Nat) (hw : WSt F0 F w ws) (hr : RowAt F0 A (linesV cd.ls)) (hl : ws.length + 3 * cd.ls.length ≤ 900000) :
    FnK Try.prog 45 #[.pointer (some ⟨w, 0, none⟩), aggOf cd A c, .int .i64 (thrF thr : Int)] F (fun v F' => WSt F0 F' w (ws ++ fieldW cd (thrF thr))) := by
  obtain ⟨k, y, x, f, o, n, p, d, l, a, ab, nm, ls⟩ := cd
  have hfw : fieldW ⟨k, y, x, f, o, n, p, d, l, a, ab, nm, ls⟩ (thrF thr) = linesW thr ls := by cases thr <;> rfl
  rw [hfw]
  have hc := fun F h => wlines thr ws ls hR.ls A c F0 F w h hr hl
  cases thr with
  | true =>
    (refine fn_walk tab_ok Try.func45 rfl rfl rfl rfl ?_; (conv => whnf))
    refine new_step (cmdO k y x f o n p d l a ab ⟨nm.toArray⟩ (.slice A ls.length c)) rfl fun b h0_b => ?_
    have hE_b := Ext.new h0_b (cmdO k y x f o n p d l a ab ⟨nm.toArray⟩ (.slice A ls.length c))
    have hB_b := Heap.put_same F b (cmdO k y x f o n p d l a ab ⟨nm.toArray⟩ (.slice A ls.length c))
    generalize F.put b _ = F1 at hE_b hB_b ⊢
    ((conv => whnf); repeat (first | (apply load_at; (conv => lhs; whnf); (with_reducible assumption); rfl; (conv => whnf)) | (apply load_at; (conv => lhs; rw [add_plain, add_plain]); (with_reducible assumption); rfl; (conv => whnf)) | (apply loads_at; (conv => lhs; whnf); (with_reducible assumption); rfl; (conv => whnf)) | (refine ⟨⟨by omega, by omega⟩, ?_⟩; (conv => whnf))))
    refine call_of (hc F1 (hw.mono hE_b)) ?_
    rintro v F2 hw2
    ((conv => whnf); repeat (first | (apply load_at; (conv => lhs; whnf); (with_reducible assumption); rfl; (conv => whnf)) | (apply load_at; (conv => lhs; rw [add_plain, add_plain]); (with_reducible assumption); rfl; (conv => whnf)) | (apply loads_at; (conv => lhs; whnf); (with_reducible assumption); rfl; (conv => whnf)) | (refine ⟨⟨by omega, by omega⟩, ?_⟩; (conv => whnf))))
    exact hw2
  | false =>
    (refine fn_walk tab_ok Try.func45 rfl rfl rfl rfl ?_; (conv => whnf))
    refine new_step (cmdO k y x f o n p d l a ab ⟨nm.toArray⟩ (.slice A ls.length c)) rfl fun b h0_b => ?_
    have hE_b := Ext.new h0_b (cmdO k y x f o n p d l a ab ⟨nm.toArray⟩ (.slice A ls.length c))
    have hB_b := Heap.put_same F b (cmdO k y x f o n p d l a ab ⟨nm.toArray⟩ (.slice A ls.length c))
    generalize F.put b _ = F1 at hE_b hB_b ⊢
    ((conv => whnf); repeat (first | (apply load_at; (conv => lhs; whnf); (with_reducible assumption); rfl; (conv => whnf)) | (apply load_at; (conv => lhs; rw [add_plain, add_plain]); (with_reducible assumption); rfl; (conv => whnf)) | (apply loads_at; (conv => lhs; whnf); (with_reducible assumption); rfl; (conv => whnf)) | (refine ⟨⟨by omega, by omega⟩, ?_⟩; (conv => whnf))))
    refine call_of (hc F1 (hw.mono hE_b)) ?_
    rintro v F2 hw2
    ((conv => whnf); repeat (first | (apply load_at; (conv => lhs; whnf); (with_reducible assumption); rfl; (conv => whnf)) | (apply load_at; (conv => lhs; rw [add_plain, add_plain]); (with_reducible assumption); rfl; (conv => whnf)) | (apply loads_at; (conv => lhs; whnf); (with_reducible assumption); rfl; (conv => whnf)) | (refine ⟨⟨by omega, by omega⟩, ?_⟩; (conv => whnf))))
    exact hw2
theorem wfieldN (fl : Nat) (hf : fl ≤ 8) (ws : List (List UInt8)) (cd : CD) (hR : CdR cd) (A : Option Addr) (c : Nat) (F0 F : Heap) (w : Nat) (hw : WSt F0 F w ws) (hl : ws.length ≤ 900000) :
    FnK Try.prog 45 #[.pointer (some ⟨w, 0, none⟩), aggOf cd A c, .int .i64 (fl : Int)] F (fun v F' => WSt F0 F' w (ws ++ fieldW cd fl)) := by
  have hz := hR.num fl
  have hpl := fun p F => place fl hf p F
  have hfw : fieldW cd fl = [txt (numF cd fl)] := by
    unfold fieldW
    rw [if_neg (by omega), if_neg (by omega), if_neg (by omega), if_neg (by omega)]
  rw [hfw]
  obtain ⟨k, y, x, f, o, n, p, d, l, a, ab, nm, ls⟩ := cd
  rcases fieldN fl hf with rfl | rfl | rfl | rfl | rfl | rfl | rfl | rfl | rfl
  · replace hz : R64 y := hz
    show FnK _ _ _ _ (fun v F' => WSt F0 F' w (ws ++ [txt y]))
    (refine fn_walk tab_ok Try.func45 rfl rfl rfl rfl ?_; (conv => whnf))
    refine new_step (cmdO k y x f o n p d l a ab ⟨nm.toArray⟩ (.slice A ls.length c)) rfl fun b h0_b => ?_
    have hE_b := Ext.new h0_b (cmdO k y x f o n p d l a ab ⟨nm.toArray⟩ (.slice A ls.length c))
    have hB_b := Heap.put_same F b (cmdO k y x f o n p d l a ab ⟨nm.toArray⟩ (.slice A ls.length c))
    generalize F.put b _ = F1 at hE_b hB_b ⊢
    ((conv => whnf); repeat (first | (apply load_at; (conv => lhs; whnf); (with_reducible assumption); rfl; (conv => whnf)) | (apply load_at; (conv => lhs; rw [add_plain, add_plain]); (with_reducible assumption); rfl; (conv => whnf)) | (apply loads_at; (conv => lhs; whnf); (with_reducible assumption); rfl; (conv => whnf)) | (refine ⟨⟨by omega, by omega⟩, ?_⟩; (conv => whnf))))
    refine call_of (hpl b F1) ?_
    rintro v F2 ⟨rfl, rfl⟩
    have hB' : F2 b = some (cmdO k y x f o n p d l a ab ⟨nm.toArray⟩ (.slice A ls.length c)) := hB_b
    ((conv => whnf); repeat (first | (apply load_at; (conv => lhs; whnf); (with_reducible assumption); rfl; (conv => whnf)) | (apply load_at; (conv => lhs; rw [add_plain, add_plain]); (with_reducible assumption); rfl; (conv => whnf)) | (apply loads_at; (conv => lhs; whnf); (with_reducible assumption); rfl; (conv => whnf)) | (refine ⟨⟨by omega, by omega⟩, ?_⟩; (conv => whnf))))
    refine new_step (.cells (([y] : List Int).map (Value.int .i64)).toArray 3) rfl fun g h0_g => ?_
    have hE_g := Ext.new h0_g (.cells (([y] : List Int).map (Value.int .i64)).toArray 3)
    have hB_g := Heap.put_same F2 g (.cells (([y] : List Int).map (Value.int .i64)).toArray 3)
    generalize F2.put g _ = F4 at hE_g hB_g ⊢
    obtain ⟨G, hwG, hEG, hrG⟩ := (hw.mono hE_b).row hE_g (row_new hB_g) (fun a ha => by cases ha; exact h0_g)
    ((conv => whnf); repeat (first | (apply load_at; (conv => lhs; whnf); (with_reducible assumption); rfl; (conv => whnf)) | (apply load_at; (conv => lhs; rw [add_plain, add_plain]); (with_reducible assumption); rfl; (conv => whnf)) | (apply loads_at; (conv => lhs; whnf); (with_reducible assumption); rfl; (conv => whnf)) | (refine ⟨⟨by omega, by omega⟩, ?_⟩; (conv => whnf))))
    refine call_of (wnums ws [y] (by intro n hn; rw [List.mem_singleton.1 hn]; exact hz) (some ⟨g, 0, none⟩) 1 G F4 w hwG hrG (by simp only [List.length_cons, List.length_nil]; omega)) ?_
    rintro v F6 hw6
    ((conv => whnf); repeat (first | (apply load_at; (conv => lhs; whnf); (with_reducible assumption); rfl; (conv => whnf)) | (apply load_at; (conv => lhs; rw [add_plain, add_plain]); (with_reducible assumption); rfl; (conv => whnf)) | (apply loads_at; (conv => lhs; whnf); (with_reducible assumption); rfl; (conv => whnf)) | (refine ⟨⟨by omega, by omega⟩, ?_⟩; (conv => whnf))))
    exact hw6.down hEG
  · replace hz : R64 x := hz
    show FnK _ _ _ _ (fun v F' => WSt F0 F' w (ws ++ [txt x]))
    (refine fn_walk tab_ok Try.func45 rfl rfl rfl rfl ?_; (conv => whnf))
    refine new_step (cmdO k y x f o n p d l a ab ⟨nm.toArray⟩ (.slice A ls.length c)) rfl fun b h0_b => ?_
    have hE_b := Ext.new h0_b (cmdO k y x f o n p d l a ab ⟨nm.toArray⟩ (.slice A ls.length c))
    have hB_b := Heap.put_same F b (cmdO k y x f o n p d l a ab ⟨nm.toArray⟩ (.slice A ls.length c))
    generalize F.put b _ = F1 at hE_b hB_b ⊢
    ((conv => whnf); repeat (first | (apply load_at; (conv => lhs; whnf); (with_reducible assumption); rfl; (conv => whnf)) | (apply load_at; (conv => lhs; rw [add_plain, add_plain]); (with_reducible assumption); rfl; (conv => whnf)) | (apply loads_at; (conv => lhs; whnf); (with_reducible assumption); rfl; (conv => whnf)) | (refine ⟨⟨by omega, by omega⟩, ?_⟩; (conv => whnf))))
    refine call_of (hpl b F1) ?_
    rintro v F2 ⟨rfl, rfl⟩
    have hB' : F2 b = some (cmdO k y x f o n p d l a ab ⟨nm.toArray⟩ (.slice A ls.length c)) := hB_b
    ((conv => whnf); repeat (first | (apply load_at; (conv => lhs; whnf); (with_reducible assumption); rfl; (conv => whnf)) | (apply load_at; (conv => lhs; rw [add_plain, add_plain]); (with_reducible assumption); rfl; (conv => whnf)) | (apply loads_at; (conv => lhs; whnf); (with_reducible assumption); rfl; (conv => whnf)) | (refine ⟨⟨by omega, by omega⟩, ?_⟩; (conv => whnf))))
    refine new_step (.cells (([x] : List Int).map (Value.int .i64)).toArray 3) rfl fun g h0_g => ?_
    have hE_g := Ext.new h0_g (.cells (([x] : List Int).map (Value.int .i64)).toArray 3)
    have hB_g := Heap.put_same F2 g (.cells (([x] : List Int).map (Value.int .i64)).toArray 3)
    generalize F2.put g _ = F4 at hE_g hB_g ⊢
    obtain ⟨G, hwG, hEG, hrG⟩ := (hw.mono hE_b).row hE_g (row_new hB_g) (fun a ha => by cases ha; exact h0_g)
    ((conv => whnf); repeat (first | (apply load_at; (conv => lhs; whnf); (with_reducible assumption); rfl; (conv => whnf)) | (apply load_at; (conv => lhs; rw [add_plain, add_plain]); (with_reducible assumption); rfl; (conv => whnf)) | (apply loads_at; (conv => lhs; whnf); (with_reducible assumption); rfl; (conv => whnf)) | (refine ⟨⟨by omega, by omega⟩, ?_⟩; (conv => whnf))))
    refine call_of (wnums ws [x] (by intro n hn; rw [List.mem_singleton.1 hn]; exact hz) (some ⟨g, 0, none⟩) 1 G F4 w hwG hrG (by simp only [List.length_cons, List.length_nil]; omega)) ?_
    rintro v F6 hw6
    ((conv => whnf); repeat (first | (apply load_at; (conv => lhs; whnf); (with_reducible assumption); rfl; (conv => whnf)) | (apply load_at; (conv => lhs; rw [add_plain, add_plain]); (with_reducible assumption); rfl; (conv => whnf)) | (apply loads_at; (conv => lhs; whnf); (with_reducible assumption); rfl; (conv => whnf)) | (refine ⟨⟨by omega, by omega⟩, ?_⟩; (conv => whnf))))
    exact hw6.down hEG
  · replace hz : R64 f := hz
    show FnK _ _ _ _ (fun v F' => WSt F0 F' w (ws ++ [txt f]))
    (refine fn_walk tab_ok Try.func45 rfl rfl rfl rfl ?_; (conv => whnf))
    refine new_step (cmdO k y x f o n p d l a ab ⟨nm.toArray⟩ (.slice A ls.length c)) rfl fun b h0_b => ?_
    have hE_b := Ext.new h0_b (cmdO k y x f o n p d l a ab ⟨nm.toArray⟩ (.slice A ls.length c))
    have hB_b := Heap.put_same F b (cmdO k y x f o n p d l a ab ⟨nm.toArray⟩ (.slice A ls.length c))
    generalize F.put b _ = F1 at hE_b hB_b ⊢
    ((conv => whnf); repeat (first | (apply load_at; (conv => lhs; whnf); (with_reducible assumption); rfl; (conv => whnf)) | (apply load_at; (conv => lhs; rw [add_plain, add_plain]); (with_reducible assumption); rfl; (conv => whnf)) | (apply loads_at; (conv => lhs; whnf); (with_reducible assumption); rfl; (conv => whnf)) | (refine ⟨⟨by omega, by omega⟩, ?_⟩; (conv => whnf))))
    refine call_of (hpl b F1) ?_
    rintro v F2 ⟨rfl, rfl⟩
    have hB' : F2 b = some (cmdO k y x f o n p d l a ab ⟨nm.toArray⟩ (.slice A ls.length c)) := hB_b
    ((conv => whnf); repeat (first | (apply load_at; (conv => lhs; whnf); (with_reducible assumption); rfl; (conv => whnf)) | (apply load_at; (conv => lhs; rw [add_plain, add_plain]); (with_reducible assumption); rfl; (conv => whnf)) | (apply loads_at; (conv => lhs; whnf); (with_reducible assumption); rfl; (conv => whnf)) | (refine ⟨⟨by omega, by omega⟩, ?_⟩; (conv => whnf))))
    refine new_step (.cells (([f] : List Int).map (Value.int .i64)).toArray 3) rfl fun g h0_g => ?_
    have hE_g := Ext.new h0_g (.cells (([f] : List Int).map (Value.int .i64)).toArray 3)
    have hB_g := Heap.put_same F2 g (.cells (([f] : List Int).map (Value.int .i64)).toArray 3)
    generalize F2.put g _ = F4 at hE_g hB_g ⊢
    obtain ⟨G, hwG, hEG, hrG⟩ := (hw.mono hE_b).row hE_g (row_new hB_g) (fun a ha => by cases ha; exact h0_g)
    ((conv => whnf); repeat (first | (apply load_at; (conv => lhs; whnf); (with_reducible assumption); rfl; (conv => whnf)) | (apply load_at; (conv => lhs; rw [add_plain, add_plain]); (with_reducible assumption); rfl; (conv => whnf)) | (apply loads_at; (conv => lhs; whnf); (with_reducible assumption); rfl; (conv => whnf)) | (refine ⟨⟨by omega, by omega⟩, ?_⟩; (conv => whnf))))
    refine call_of (wnums ws [f] (by intro n hn; rw [List.mem_singleton.1 hn]; exact hz) (some ⟨g, 0, none⟩) 1 G F4 w hwG hrG (by simp only [List.length_cons, List.length_nil]; omega)) ?_
    rintro v F6 hw6
    ((conv => whnf); repeat (first | (apply load_at; (conv => lhs; whnf); (with_reducible assumption); rfl; (conv => whnf)) | (apply load_at; (conv => lhs; rw [add_plain, add_plain]); (with_reducible assumption); rfl; (conv => whnf)) | (apply loads_at; (conv => lhs; whnf); (with_reducible assumption); rfl; (conv => whnf)) | (refine ⟨⟨by omega, by omega⟩, ?_⟩; (conv => whnf))))
    exact hw6.down hEG
  · replace hz : R64 o := hz
    show FnK _ _ _ _ (fun v F' => WSt F0 F' w (ws ++ [txt o]))
    (refine fn_walk tab_ok Try.func45 rfl rfl rfl rfl ?_; (conv => whnf))
    refine new_step (cmdO k y x f o n p d l a ab ⟨nm.toArray⟩ (.slice A ls.length c)) rfl fun b h0_b => ?_
    have hE_b := Ext.new h0_b (cmdO k y x f o n p d l a ab ⟨nm.toArray⟩ (.slice A ls.length c))
    have hB_b := Heap.put_same F b (cmdO k y x f o n p d l a ab ⟨nm.toArray⟩ (.slice A ls.length c))
    generalize F.put b _ = F1 at hE_b hB_b ⊢
    ((conv => whnf); repeat (first | (apply load_at; (conv => lhs; whnf); (with_reducible assumption); rfl; (conv => whnf)) | (apply load_at; (conv => lhs; rw [add_plain, add_plain]); (with_reducible assumption); rfl; (conv => whnf)) | (apply loads_at; (conv => lhs; whnf); (with_reducible assumption); rfl; (conv => whnf)) | (refine ⟨⟨by omega, by omega⟩, ?_⟩; (conv => whnf))))
    refine call_of (hpl b F1) ?_
    rintro v F2 ⟨rfl, rfl⟩
    have hB' : F2 b = some (cmdO k y x f o n p d l a ab ⟨nm.toArray⟩ (.slice A ls.length c)) := hB_b
    ((conv => whnf); repeat (first | (apply load_at; (conv => lhs; whnf); (with_reducible assumption); rfl; (conv => whnf)) | (apply load_at; (conv => lhs; rw [add_plain, add_plain]); (with_reducible assumption); rfl; (conv => whnf)) | (apply loads_at; (conv => lhs; whnf); (with_reducible assumption); rfl; (conv => whnf)) | (refine ⟨⟨by omega, by omega⟩, ?_⟩; (conv => whnf))))
    refine new_step (.cells (([o] : List Int).map (Value.int .i64)).toArray 3) rfl fun g h0_g => ?_
    have hE_g := Ext.new h0_g (.cells (([o] : List Int).map (Value.int .i64)).toArray 3)
    have hB_g := Heap.put_same F2 g (.cells (([o] : List Int).map (Value.int .i64)).toArray 3)
    generalize F2.put g _ = F4 at hE_g hB_g ⊢
    obtain ⟨G, hwG, hEG, hrG⟩ := (hw.mono hE_b).row hE_g (row_new hB_g) (fun a ha => by cases ha; exact h0_g)
    ((conv => whnf); repeat (first | (apply load_at; (conv => lhs; whnf); (with_reducible assumption); rfl; (conv => whnf)) | (apply load_at; (conv => lhs; rw [add_plain, add_plain]); (with_reducible assumption); rfl; (conv => whnf)) | (apply loads_at; (conv => lhs; whnf); (with_reducible assumption); rfl; (conv => whnf)) | (refine ⟨⟨by omega, by omega⟩, ?_⟩; (conv => whnf))))
    refine call_of (wnums ws [o] (by intro n hn; rw [List.mem_singleton.1 hn]; exact hz) (some ⟨g, 0, none⟩) 1 G F4 w hwG hrG (by simp only [List.length_cons, List.length_nil]; omega)) ?_
    rintro v F6 hw6
    ((conv => whnf); repeat (first | (apply load_at; (conv => lhs; whnf); (with_reducible assumption); rfl; (conv => whnf)) | (apply load_at; (conv => lhs; rw [add_plain, add_plain]); (with_reducible assumption); rfl; (conv => whnf)) | (apply loads_at; (conv => lhs; whnf); (with_reducible assumption); rfl; (conv => whnf)) | (refine ⟨⟨by omega, by omega⟩, ?_⟩; (conv => whnf))))
    exact hw6.down hEG
  · replace hz : R64 n := hz
    show FnK _ _ _ _ (fun v F' => WSt F0 F' w (ws ++ [txt n]))
    (refine fn_walk tab_ok Try.func45 rfl rfl rfl rfl ?_; (conv => whnf))
    refine new_step (cmdO k y x f o n p d l a ab ⟨nm.toArray⟩ (.slice A ls.length c)) rfl fun b h0_b => ?_
    have hE_b := Ext.new h0_b (cmdO k y x f o n p d l a ab ⟨nm.toArray⟩ (.slice A ls.length c))
    have hB_b := Heap.put_same F b (cmdO k y x f o n p d l a ab ⟨nm.toArray⟩ (.slice A ls.length c))
    generalize F.put b _ = F1 at hE_b hB_b ⊢
    ((conv => whnf); repeat (first | (apply load_at; (conv => lhs; whnf); (with_reducible assumption); rfl; (conv => whnf)) | (apply load_at; (conv => lhs; rw [add_plain, add_plain]); (with_reducible assumption); rfl; (conv => whnf)) | (apply loads_at; (conv => lhs; whnf); (with_reducible assumption); rfl; (conv => whnf)) | (refine ⟨⟨by omega, by omega⟩, ?_⟩; (conv => whnf))))
    refine call_of (hpl b F1) ?_
    rintro v F2 ⟨rfl, rfl⟩
    have hB' : F2 b = some (cmdO k y x f o n p d l a ab ⟨nm.toArray⟩ (.slice A ls.length c)) := hB_b
    ((conv => whnf); repeat (first | (apply load_at; (conv => lhs; whnf); (with_reducible assumption); rfl; (conv => whnf)) | (apply load_at; (conv => lhs; rw [add_plain, add_plain]); (with_reducible assumption); rfl; (conv => whnf)) | (apply loads_at; (conv => lhs; whnf); (with_reducible assumption); rfl; (conv => whnf)) | (refine ⟨⟨by omega, by omega⟩, ?_⟩; (conv => whnf))))
    refine new_step (.cells (([n] : List Int).map (Value.int .i64)).toArray 3) rfl fun g h0_g => ?_
    have hE_g := Ext.new h0_g (.cells (([n] : List Int).map (Value.int .i64)).toArray 3)
    have hB_g := Heap.put_same F2 g (.cells (([n] : List Int).map (Value.int .i64)).toArray 3)
    generalize F2.put g _ = F4 at hE_g hB_g ⊢
    obtain ⟨G, hwG, hEG, hrG⟩ := (hw.mono hE_b).row hE_g (row_new hB_g) (fun a ha => by cases ha; exact h0_g)
    ((conv => whnf); repeat (first | (apply load_at; (conv => lhs; whnf); (with_reducible assumption); rfl; (conv => whnf)) | (apply load_at; (conv => lhs; rw [add_plain, add_plain]); (with_reducible assumption); rfl; (conv => whnf)) | (apply loads_at; (conv => lhs; whnf); (with_reducible assumption); rfl; (conv => whnf)) | (refine ⟨⟨by omega, by omega⟩, ?_⟩; (conv => whnf))))
    refine call_of (wnums ws [n] (by intro n hn; rw [List.mem_singleton.1 hn]; exact hz) (some ⟨g, 0, none⟩) 1 G F4 w hwG hrG (by simp only [List.length_cons, List.length_nil]; omega)) ?_
    rintro v F6 hw6
    ((conv => whnf); repeat (first | (apply load_at; (conv => lhs; whnf); (with_reducible assumption); rfl; (conv => whnf)) | (apply load_at; (conv => lhs; rw [add_plain, add_plain]); (with_reducible assumption); rfl; (conv => whnf)) | (apply loads_at; (conv => lhs; whnf); (with_reducible assumption); rfl; (conv => whnf)) | (refine ⟨⟨by omega, by omega⟩, ?_⟩; (conv => whnf))))
    exact hw6.down hEG
  · replace hz : R64 p := hz
    show FnK _ _ _ _ (fun v F' => WSt F0 F' w (ws ++ [txt p]))
    (refine fn_walk tab_ok Try.func45 rfl rfl rfl rfl ?_; (conv => whnf))
    refine new_step (cmdO k y x f o n p d l a ab ⟨nm.toArray⟩ (.slice A ls.length c)) rfl fun b h0_b => ?_
    have hE_b := Ext.new h0_b (cmdO k y x f o n p d l a ab ⟨nm.toArray⟩ (.slice A ls.length c))
    have hB_b := Heap.put_same F b (cmdO k y x f o n p d l a ab ⟨nm.toArray⟩ (.slice A ls.length c))
    generalize F.put b _ = F1 at hE_b hB_b ⊢
    ((conv => whnf); repeat (first | (apply load_at; (conv => lhs; whnf); (with_reducible assumption); rfl; (conv => whnf)) | (apply load_at; (conv => lhs; rw [add_plain, add_plain]); (with_reducible assumption); rfl; (conv => whnf)) | (apply loads_at; (conv => lhs; whnf); (with_reducible assumption); rfl; (conv => whnf)) | (refine ⟨⟨by omega, by omega⟩, ?_⟩; (conv => whnf))))
    refine call_of (hpl b F1) ?_
    rintro v F2 ⟨rfl, rfl⟩
    have hB' : F2 b = some (cmdO k y x f o n p d l a ab ⟨nm.toArray⟩ (.slice A ls.length c)) := hB_b
    ((conv => whnf); repeat (first | (apply load_at; (conv => lhs; whnf); (with_reducible assumption); rfl; (conv => whnf)) | (apply load_at; (conv => lhs; rw [add_plain, add_plain]); (with_reducible assumption); rfl; (conv => whnf)) | (apply loads_at; (conv => lhs; whnf); (with_reducible assumption); rfl; (conv => whnf)) | (refine ⟨⟨by omega, by omega⟩, ?_⟩; (conv => whnf))))
    refine new_step (.cells (([p] : List Int).map (Value.int .i64)).toArray 3) rfl fun g h0_g => ?_
    have hE_g := Ext.new h0_g (.cells (([p] : List Int).map (Value.int .i64)).toArray 3)
    have hB_g := Heap.put_same F2 g (.cells (([p] : List Int).map (Value.int .i64)).toArray 3)
    generalize F2.put g _ = F4 at hE_g hB_g ⊢
    obtain ⟨G, hwG, hEG, hrG⟩ := (hw.mono hE_b).row hE_g (row_new hB_g) (fun a ha => by cases ha; exact h0_g)
    ((conv => whnf); repeat (first | (apply load_at; (conv => lhs; whnf); (with_reducible assumption); rfl; (conv => whnf)) | (apply load_at; (conv => lhs; rw [add_plain, add_plain]); (with_reducible assumption); rfl; (conv => whnf)) | (apply loads_at; (conv => lhs; whnf); (with_reducible assumption); rfl; (conv => whnf)) | (refine ⟨⟨by omega, by omega⟩, ?_⟩; (conv => whnf))))
    refine call_of (wnums ws [p] (by intro n hn; rw [List.mem_singleton.1 hn]; exact hz) (some ⟨g, 0, none⟩) 1 G F4 w hwG hrG (by simp only [List.length_cons, List.length_nil]; omega)) ?_
    rintro v F6 hw6
    ((conv => whnf); repeat (first | (apply load_at; (conv => lhs; whnf); (with_reducible assumption); rfl; (conv => whnf)) | (apply load_at; (conv => lhs; rw [add_plain, add_plain]); (with_reducible assumption); rfl; (conv => whnf)) | (apply loads_at; (conv => lhs; whnf); (with_reducible assumption); rfl; (conv => whnf)) | (refine ⟨⟨by omega, by omega⟩, ?_⟩; (conv => whnf))))
    exact hw6.down hEG
  · replace hz : R64 d := hz
    show FnK _ _ _ _ (fun v F' => WSt F0 F' w (ws ++ [txt d]))
    (refine fn_walk tab_ok Try.func45 rfl rfl rfl rfl ?_; (conv => whnf))
    refine new_step (cmdO k y x f o n p d l a ab ⟨nm.toArray⟩ (.slice A ls.length c)) rfl fun b h0_b => ?_
    have hE_b := Ext.new h0_b (cmdO k y x f o n p d l a ab ⟨nm.toArray⟩ (.slice A ls.length c))
    have hB_b := Heap.put_same F b (cmdO k y x f o n p d l a ab ⟨nm.toArray⟩ (.slice A ls.length c))
    generalize F.put b _ = F1 at hE_b hB_b ⊢
    ((conv => whnf); repeat (first | (apply load_at; (conv => lhs; whnf); (with_reducible assumption); rfl; (conv => whnf)) | (apply load_at; (conv => lhs; rw [add_plain, add_plain]); (with_reducible assumption); rfl; (conv => whnf)) | (apply loads_at; (conv => lhs; whnf); (with_reducible assumption); rfl; (conv => whnf)) | (refine ⟨⟨by omega, by omega⟩, ?_⟩; (conv => whnf))))
    refine call_of (hpl b F1) ?_
    rintro v F2 ⟨rfl, rfl⟩
    have hB' : F2 b = some (cmdO k y x f o n p d l a ab ⟨nm.toArray⟩ (.slice A ls.length c)) := hB_b
    ((conv => whnf); repeat (first | (apply load_at; (conv => lhs; whnf); (with_reducible assumption); rfl; (conv => whnf)) | (apply load_at; (conv => lhs; rw [add_plain, add_plain]); (with_reducible assumption); rfl; (conv => whnf)) | (apply loads_at; (conv => lhs; whnf); (with_reducible assumption); rfl; (conv => whnf)) | (refine ⟨⟨by omega, by omega⟩, ?_⟩; (conv => whnf))))
    refine new_step (.cells (([d] : List Int).map (Value.int .i64)).toArray 3) rfl fun g h0_g => ?_
    have hE_g := Ext.new h0_g (.cells (([d] : List Int).map (Value.int .i64)).toArray 3)
    have hB_g := Heap.put_same F2 g (.cells (([d] : List Int).map (Value.int .i64)).toArray 3)
    generalize F2.put g _ = F4 at hE_g hB_g ⊢
    obtain ⟨G, hwG, hEG, hrG⟩ := (hw.mono hE_b).row hE_g (row_new hB_g) (fun a ha => by cases ha; exact h0_g)
    ((conv => whnf); repeat (first | (apply load_at; (conv => lhs; whnf); (with_reducible assumption); rfl; (conv => whnf)) | (apply load_at; (conv => lhs; rw [add_plain, add_plain]); (with_reducible assumption); rfl; (conv => whnf)) | (apply loads_at; (conv => lhs; whnf); (with_reducible assumption); rfl; (conv => whnf)) | (refine ⟨⟨by omega, by omega⟩, ?_⟩; (conv => whnf))))
    refine call_of (wnums ws [d] (by intro n hn; rw [List.mem_singleton.1 hn]; exact hz) (some ⟨g, 0, none⟩) 1 G F4 w hwG hrG (by simp only [List.length_cons, List.length_nil]; omega)) ?_
    rintro v F6 hw6
    ((conv => whnf); repeat (first | (apply load_at; (conv => lhs; whnf); (with_reducible assumption); rfl; (conv => whnf)) | (apply load_at; (conv => lhs; rw [add_plain, add_plain]); (with_reducible assumption); rfl; (conv => whnf)) | (apply loads_at; (conv => lhs; whnf); (with_reducible assumption); rfl; (conv => whnf)) | (refine ⟨⟨by omega, by omega⟩, ?_⟩; (conv => whnf))))
    exact hw6.down hEG
  · replace hz : R64 l := hz
    show FnK _ _ _ _ (fun v F' => WSt F0 F' w (ws ++ [txt l]))
    (refine fn_walk tab_ok Try.func45 rfl rfl rfl rfl ?_; (conv => whnf))
    refine new_step (cmdO k y x f o n p d l a ab ⟨nm.toArray⟩ (.slice A ls.length c)) rfl fun b h0_b => ?_
    have hE_b := Ext.new h0_b (cmdO k y x f o n p d l a ab ⟨nm.toArray⟩ (.slice A ls.length c))
    have hB_b := Heap.put_same F b (cmdO k y x f o n p d l a ab ⟨nm.toArray⟩ (.slice A ls.length c))
    generalize F.put b _ = F1 at hE_b hB_b ⊢
    ((conv => whnf); repeat (first | (apply load_at; (conv => lhs; whnf); (with_reducible assumption); rfl; (conv => whnf)) | (apply load_at; (conv => lhs; rw [add_plain, add_plain]); (with_reducible assumption); rfl; (conv => whnf)) | (apply loads_at; (conv => lhs; whnf); (with_reducible assumption); rfl; (conv => whnf)) | (refine ⟨⟨by omega, by omega⟩, ?_⟩; (conv => whnf))))
    refine call_of (hpl b F1) ?_
    rintro v F2 ⟨rfl, rfl⟩
    have hB' : F2 b = some (cmdO k y x f o n p d l a ab ⟨nm.toArray⟩ (.slice A ls.length c)) := hB_b
    ((conv => whnf); repeat (first | (apply load_at; (conv => lhs; whnf); (with_reducible assumption); rfl; (conv => whnf)) | (apply load_at; (conv => lhs; rw [add_plain, add_plain]); (with_reducible assumption); rfl; (conv => whnf)) | (apply loads_at; (conv => lhs; whnf); (with_reducible assumption); rfl; (conv => whnf)) | (refine ⟨⟨by omega, by omega⟩, ?_⟩; (conv => whnf))))
    refine new_step (.cells (([l] : List Int).map (Value.int .i64)).toArray 3) rfl fun g h0_g => ?_
    have hE_g := Ext.new h0_g (.cells (([l] : List Int).map (Value.int .i64)).toArray 3)
    have hB_g := Heap.put_same F2 g (.cells (([l] : List Int).map (Value.int .i64)).toArray 3)
    generalize F2.put g _ = F4 at hE_g hB_g ⊢
    obtain ⟨G, hwG, hEG, hrG⟩ := (hw.mono hE_b).row hE_g (row_new hB_g) (fun a ha => by cases ha; exact h0_g)
    ((conv => whnf); repeat (first | (apply load_at; (conv => lhs; whnf); (with_reducible assumption); rfl; (conv => whnf)) | (apply load_at; (conv => lhs; rw [add_plain, add_plain]); (with_reducible assumption); rfl; (conv => whnf)) | (apply loads_at; (conv => lhs; whnf); (with_reducible assumption); rfl; (conv => whnf)) | (refine ⟨⟨by omega, by omega⟩, ?_⟩; (conv => whnf))))
    refine call_of (wnums ws [l] (by intro n hn; rw [List.mem_singleton.1 hn]; exact hz) (some ⟨g, 0, none⟩) 1 G F4 w hwG hrG (by simp only [List.length_cons, List.length_nil]; omega)) ?_
    rintro v F6 hw6
    ((conv => whnf); repeat (first | (apply load_at; (conv => lhs; whnf); (with_reducible assumption); rfl; (conv => whnf)) | (apply load_at; (conv => lhs; rw [add_plain, add_plain]); (with_reducible assumption); rfl; (conv => whnf)) | (apply loads_at; (conv => lhs; whnf); (with_reducible assumption); rfl; (conv => whnf)) | (refine ⟨⟨by omega, by omega⟩, ?_⟩; (conv => whnf))))
    exact hw6.down hEG
  · replace hz : R64 a := hz
    show FnK _ _ _ _ (fun v F' => WSt F0 F' w (ws ++ [txt a]))
    (refine fn_walk tab_ok Try.func45 rfl rfl rfl rfl ?_; (conv => whnf))
    refine new_step (cmdO k y x f o n p d l a ab ⟨nm.toArray⟩ (.slice A ls.length c)) rfl fun b h0_b => ?_
    have hE_b := Ext.new h0_b (cmdO k y x f o n p d l a ab ⟨nm.toArray⟩ (.slice A ls.length c))
    have hB_b := Heap.put_same F b (cmdO k y x f o n p d l a ab ⟨nm.toArray⟩ (.slice A ls.length c))
    generalize F.put b _ = F1 at hE_b hB_b ⊢
    ((conv => whnf); repeat (first | (apply load_at; (conv => lhs; whnf); (with_reducible assumption); rfl; (conv => whnf)) | (apply load_at; (conv => lhs; rw [add_plain, add_plain]); (with_reducible assumption); rfl; (conv => whnf)) | (apply loads_at; (conv => lhs; whnf); (with_reducible assumption); rfl; (conv => whnf)) | (refine ⟨⟨by omega, by omega⟩, ?_⟩; (conv => whnf))))
    refine call_of (hpl b F1) ?_
    rintro v F2 ⟨rfl, rfl⟩
    have hB' : F2 b = some (cmdO k y x f o n p d l a ab ⟨nm.toArray⟩ (.slice A ls.length c)) := hB_b
    ((conv => whnf); repeat (first | (apply load_at; (conv => lhs; whnf); (with_reducible assumption); rfl; (conv => whnf)) | (apply load_at; (conv => lhs; rw [add_plain, add_plain]); (with_reducible assumption); rfl; (conv => whnf)) | (apply loads_at; (conv => lhs; whnf); (with_reducible assumption); rfl; (conv => whnf)) | (refine ⟨⟨by omega, by omega⟩, ?_⟩; (conv => whnf))))
    refine new_step (.cells (([a] : List Int).map (Value.int .i64)).toArray 3) rfl fun g h0_g => ?_
    have hE_g := Ext.new h0_g (.cells (([a] : List Int).map (Value.int .i64)).toArray 3)
    have hB_g := Heap.put_same F2 g (.cells (([a] : List Int).map (Value.int .i64)).toArray 3)
    generalize F2.put g _ = F4 at hE_g hB_g ⊢
    obtain ⟨G, hwG, hEG, hrG⟩ := (hw.mono hE_b).row hE_g (row_new hB_g) (fun a ha => by cases ha; exact h0_g)
    ((conv => whnf); repeat (first | (apply load_at; (conv => lhs; whnf); (with_reducible assumption); rfl; (conv => whnf)) | (apply load_at; (conv => lhs; rw [add_plain, add_plain]); (with_reducible assumption); rfl; (conv => whnf)) | (apply loads_at; (conv => lhs; whnf); (with_reducible assumption); rfl; (conv => whnf)) | (refine ⟨⟨by omega, by omega⟩, ?_⟩; (conv => whnf))))
    refine call_of (wnums ws [a] (by intro n hn; rw [List.mem_singleton.1 hn]; exact hz) (some ⟨g, 0, none⟩) 1 G F4 w hwG hrG (by simp only [List.length_cons, List.length_nil]; omega)) ?_
    rintro v F6 hw6
    ((conv => whnf); repeat (first | (apply load_at; (conv => lhs; whnf); (with_reducible assumption); rfl; (conv => whnf)) | (apply load_at; (conv => lhs; rw [add_plain, add_plain]); (with_reducible assumption); rfl; (conv => whnf)) | (apply loads_at; (conv => lhs; whnf); (with_reducible assumption); rfl; (conv => whnf)) | (refine ⟨⟨by omega, by omega⟩, ?_⟩; (conv => whnf))))
    exact hw6.down hEG
theorem wfield (f : Nat) (hf : f ≤ 12) (ws : List (List UInt8)) (cd : CD) (hR : CdR cd) (A : Option Addr) (c : Nat) (F0 F : Heap) (w : Nat) (hw : WSt F0 F w ws) (hr : RowAt F0 A (linesV cd.ls)) (hl : ws.length + 3 * cd.ls.length ≤ 900000) :
    FnK Try.prog 45 #[.pointer (some ⟨w, 0, none⟩), aggOf cd A c, .int .i64 (f : Int)] F (fun v F' => WSt F0 F' w (ws ++ fieldW cd f)) := by
  by_cases h : f ≤ 8
  · exact wfieldN f h ws cd hR A c F0 F w hw (by omega)
  · obtain rfl | rfl | rfl | rfl : f = 9 ∨ f = 10 ∨ f = 11 ∨ f = 12 := by omega
    · exact wfield9 ws cd A c F0 F w hw (by omega)
    · exact wfield10 ws cd A c F0 F w hw (by omega)
    · exact wfieldL true ws cd hR A c F0 F w hw hr (by omega)
    · exact wfieldL false ws cd hR A c F0 F w hw hr (by omega)
end Go.Proofs.Ytbgijjoemnfnmaa.Al
/- exchequer/text.print. -/
namespace Go.Proofs.Ytbgijjoemnfnmaa.Al
open Go Go.Al Go.Proofs Go.RowKit
set_option maxHeartbeats 8000000
set_option maxRecDepth 100000
set_option linter.unusedVariables false
set_option linter.unusedSimpArgs false
def wordK (k : Nat) : List UInt8 := (wordsL[k - 1]?).getD []
def fieldsW (cd : CD) (fs : List Nat) : List (List UInt8) := fs.flatMap (fieldW cd)
def wordsP (cd : CD) : List (List UInt8) := wordK cd.k.toNat :: fieldsW cd (asksL cd.k.toNat)
def printP (cd : CD) : List UInt8 := joinL (wordsP cd)
theorem txt_len (n : Int) (h : R64 n) : (txt n).length ≤ 20 := by
  have := digsR_log 18 n.natAbs (by unfold R64 at h; have : (10 : Nat) ^ 19 = 10000000000000000000 := by decide
                                    omega)
  unfold txt
  split
  · rw [List.length_cons, List.length_reverse]; omega
  · rw [List.length_reverse]; omega
theorem lenL_app (a b : List (List UInt8)) : lenL (a ++ b) = lenL a + lenL b := by unfold lenL; rw [List.map_append, List.sum_append]
theorem lenL_cons (w : List UInt8) (b : List (List UInt8)) : lenL (w :: b) = w.length + lenL b := rfl
theorem lenL_nums (l : List Int) (h : ∀ n ∈ l, R64 n) : lenL (l.map txt) ≤ 20 * l.length := by
  induction l with
  | nil => exact Nat.le_refl _
  | cons n l ih =>
    have h1 := txt_len n (h n (by simp))
    have h2 := ih fun m hm => h m (by simp [hm])
    rw [List.map_cons, lenL_cons, List.length_cons]
    omega
theorem lenL_lines (thr : Bool) (ls : List LD) (h : ∀ q ∈ ls, LnR q) : lenL (linesW thr ls) ≤ 60 * ls.length := by
  induction ls with
  | nil => exact Nat.le_refl _
  | cons q ls ih =>
    have h2 := ih fun m hm => h m (by simp [hm])
    obtain ⟨r1, r2, r3, r4⟩ := h q (by simp)
    have h1 : lenL ((numsW thr q).map txt) ≤ 60 := by
      refine Nat.le_trans (lenL_nums _ ?_) ?_
      · intro n hn
        unfold numsW at hn
        split at hn
        · simp only [List.mem_cons, List.not_mem_nil, or_false] at hn
          rcases hn with rfl | rfl | rfl <;> assumption
        · simp only [List.mem_cons, List.not_mem_nil, or_false] at hn
          rcases hn with rfl | rfl <;> assumption
      · unfold numsW
        split <;> simp
    show lenL ((numsW thr q).map txt ++ linesW thr ls) ≤ _
    rw [lenL_app, List.length_cons]
    omega
theorem lenL_field (cd : CD) (hR : CdR cd) (f : Nat) : lenL (fieldW cd f) ≤ 28 + cd.nm.length + 60 * cd.ls.length := by
  unfold fieldW
  split
  · rw [lenL_cons]; show _ + 0 ≤ _; omega
  split
  · rw [lenL_cons]
    have : (if cd.ab = true then yesL else noL).length = 8 := by split <;> rfl
    show _ + 0 ≤ _; omega
  split
  · have := lenL_lines true cd.ls hR.ls; omega
  split
  · have := lenL_lines false cd.ls hR.ls; omega
  · rw [lenL_cons]
    have := txt_len _ (hR.num f)
    show _ + 0 ≤ _; omega
theorem lenL_fields (cd : CD) (hR : CdR cd) (B : Nat) (hB : 28 + cd.nm.length + 60 * cd.ls.length ≤ B) : ∀ fs : List Nat, lenL (fieldsW cd fs) ≤ fs.length * B ∧ (fieldsW cd fs).length ≤ fs.length * B
  | [] => ⟨Nat.zero_le _, Nat.zero_le _⟩
  | f :: fs => by
    have ih := lenL_fields cd hR B hB fs
    have h1 := lenL_field cd hR f
    have h2 := fieldW_len cd f
    show lenL (fieldW cd f ++ fieldsW cd fs) ≤ _ ∧ (fieldW cd f ++ fieldsW cd fs).length ≤ _
    rw [lenL_app, List.length_append, List.length_cons, Nat.succ_mul]
    omega
theorem wordK_len (k : Nat) : (wordK k).length ≤ 9 := by
  unfold wordK
  have h : ∀ w ∈ wordsL, w.length ≤ 9 := by decide
  cases e : wordsL[k - 1]? with
  | none => exact Nat.zero_le _
  | some w => exact h w (List.mem_of_getElem? e)
theorem wordK_at (k : Nat) (hk : 1 ≤ k ∧ k ≤ 20) : wordsL[k - 1]? = some (wordK k) := by
  unfold wordK
  rw [List.getElem?_eq_getElem (show k - 1 < wordsL.length by show k - 1 < 20; omega)]
  rfl
theorem printP_len (cd : CD) (hR : CdR cd) (hn : cd.nm.length ≤ 100000) (hl : cd.ls.length ≤ 10000) : (printP cd).length ≤ 900000000 := by
  unfold printP wordsP
  have h1 := lenL_fields cd hR 1000000 (by omega) (asksL cd.k.toNat)
  have h2 := asksL_len cd.k.toNat
  have h3 := wordK_len cd.k.toNat
  have h4 : (asksL cd.k.toNat).length * 1000000 ≤ 7 * 1000000 := Nat.mul_le_mul_right _ h2
  show (wordK cd.k.toNat ++ tailL (fieldsW cd (asksL cd.k.toNat))).length ≤ _
  rw [List.length_append, tailL_len]
  omega
theorem print (cd : CD) (hk : knownB cd.k = true) (hR : CdR cd) (A : Option Addr) (c : Nat) (F : Heap) (hr : RowAt F A (linesV cd.ls)) (hn : cd.nm.length ≤ 100000) (hl : cd.ls.length ≤ 10000) :
    FnK Try.prog 27 #[aggOf cd A c] F (fun v F' => v = str (printP cd) ∧ Ext F F') := by
  have hpl := printP_len cd hR hn hl
  obtain ⟨kn, hkn⟩ : ∃ kn : Nat, cd.k = (kn : Int) ∧ 1 ≤ kn ∧ kn ≤ 20 := by
    unfold knownB at hk
    rw [Bool.and_eq_true, decide_eq_true_iff, decide_eq_true_iff] at hk
    exact ⟨cd.k.toNat, by omega, by omega, by omega⟩
  obtain ⟨hk1, hk2, hk3⟩ := hkn
  have hpp : printP cd = joinL (wordK kn :: fieldsW cd (asksL kn)) := by unfold printP wordsP; rw [hk1]; rfl
  rw [hpp] at hpl ⊢
  have hwf := fun f hf ws F0 F w hw hr hl => wfield f hf ws cd hR A c F0 F w hw hr hl
  have hfwl := fun j => fieldW_len cd j
  have hlw : ∀ fs : List Nat, (fieldsW cd fs).length ≤ fs.length * (1 + 3 * cd.ls.length) := by
    intro fs
    induction fs with
    | nil => exact Nat.zero_le _
    | cons f fs ih =>
      show (fieldW cd f ++ fieldsW cd fs).length ≤ _
      rw [List.length_append, List.length_cons, Nat.succ_mul]
      have := hfwl f
      omega
  have hwk := wordK_at kn ⟨hk2, hk3⟩
  have hask := asks kn ⟨hk2, hk3⟩
  have hal := asksL_le kn
  have han := asksL_len kn
  have htk : ∀ (fs : List Nat) (j f : Nat), fs[j]? = some f → fieldsW cd (fs.take (j + 1)) = fieldsW cd (fs.take j) ++ fieldW cd f := by
    intro fs j f h
    unfold fieldsW
    rw [List.take_add_one, h]
    simp
  obtain ⟨Wf, hWf⟩ : ∃ W, W = fieldsW cd := ⟨_, rfl⟩
  obtain ⟨wf, hwf0⟩ : ∃ w, w = fieldW cd := ⟨_, rfl⟩
  have h0W : Wf [] = [] := by rw [hWf]; rfl
  rw [← hWf] at hpl hlw htk ⊢
  rw [← hwf0] at hwf htk hfwl
  clear hpp hWf hwf0
  generalize asksL kn = fs at hpl hask hal han ⊢
  generalize wordK kn = wk at hpl hwk ⊢
  obtain ⟨k, y, x, f_, o, n, p, d, l, a, ab, nm, ls⟩ := cd
  obtain rfl : k = (kn : Int) := hk1
  replace hwf : ∀ fl : Nat, fl ≤ 12 → ∀ (ws : List (List UInt8)) (F0 F : Heap) (w : Nat), WSt F0 F w ws → RowAt F0 A (linesV ls) → ws.length + 3 * ls.length ≤ 900000 → FnK Try.prog 45 #[.pointer (some ⟨w, 0, none⟩), .agg (cmdC kn y x f_ o n p d l a ab ⟨nm.toArray⟩ (.slice A ls.length c)), .int .i64 (fl : Int)] F (fun v F' => WSt F0 F' w (ws ++ wf fl)) := hwf
  replace hr : RowAt F A (linesV ls) := hr
  replace hl : ls.length ≤ 10000 := hl
  replace hlw : ∀ fs : List Nat, (Wf fs).length ≤ fs.length * (1 + 3 * ls.length) := hlw
  have hks : IntKind.i64.wrap ((kn : Int) - 1) = ((kn - 1 : Nat) : Int) := by rw [wrap_eq (by omega) (by omega)]; omega
  (refine fn_walk tab_ok Try.func27 rfl rfl rfl rfl ?_; (conv => whnf))
  refine new_step (cmdO kn y x f_ o n p d l a ab ⟨nm.toArray⟩ (.slice A ls.length c)) rfl fun b h0_b => ?_
  have hE_b := Ext.new h0_b (cmdO kn y x f_ o n p d l a ab ⟨nm.toArray⟩ (.slice A ls.length c))
  have hB_b := Heap.put_same F b (cmdO kn y x f_ o n p d l a ab ⟨nm.toArray⟩ (.slice A ls.length c))
  generalize F.put b _ = F1 at hE_b hB_b ⊢
  ((conv => whnf); repeat (first | (apply load_at; (conv => lhs; whnf); (with_reducible assumption); rfl; (conv => whnf)) | (apply load_at; (conv => lhs; rw [add_plain, add_plain]); (with_reducible assumption); rfl; (conv => whnf)) | (apply loads_at; (conv => lhs; whnf); (with_reducible assumption); rfl; (conv => whnf)) | (refine ⟨⟨by omega, by omega⟩, ?_⟩; (conv => whnf))))
  refine draw_cut (fun env' F' => ∃ w, env' 1 = .pointer (some ⟨b, 0, none⟩) ∧ env' 3 = .pointer (some ⟨w, 0, none⟩) ∧ WSt F1 F' w [wk]) (fun K hK => ?_) ?_
  · refine draw_tree tab_ok (by kernel_rfl) [2, 1000] (DT.row [1, 2, 3, 0, 4, 5, 6, 7, 8, 9] .nil) (by kernel_rfl) ?_
    ((conv => whnf); repeat (first | (apply load_at; (conv => lhs; whnf); (with_reducible assumption); rfl; (conv => whnf)) | (apply load_at; (conv => lhs; rw [add_plain, add_plain]); (with_reducible assumption); rfl; (conv => whnf)) | (apply loads_at; (conv => lhs; whnf); (with_reducible assumption); rfl; (conv => whnf)) | (refine ⟨⟨by omega, by omega⟩, ?_⟩; (conv => whnf))))
    refine call_of (words F1) ?_
    rintro v F2 ⟨g, rfl, hrg, h0g, hE2⟩
    refine ⟨hE2, ?_⟩
    have hcell : F2.cell? ((⟨g, 0, none⟩ : Addr).add (Int.toNat (IntKind.i64.wrap ((kn : Int) - 1)) * 1)) = some (str wk) := by
      rw [hks]
      exact tx_cell hrg hwk
    ((conv => whnf); repeat (first | (apply load_at; (conv => lhs; whnf); (with_reducible assumption); rfl; (conv => whnf)) | (apply load_at; (conv => lhs; rw [add_plain, add_plain]); (with_reducible assumption); rfl; (conv => whnf)) | (apply loads_at; (conv => lhs; whnf); (with_reducible assumption); rfl; (conv => whnf)) | (refine ⟨⟨by omega, by omega⟩, ?_⟩; (conv => whnf))))
    refine load_step hcell ?_
    ((conv => whnf); repeat (first | (apply load_at; (conv => lhs; whnf); (with_reducible assumption); rfl; (conv => whnf)) | (apply load_at; (conv => lhs; rw [add_plain, add_plain]); (with_reducible assumption); rfl; (conv => whnf)) | (apply loads_at; (conv => lhs; whnf); (with_reducible assumption); rfl; (conv => whnf)) | (refine ⟨⟨by omega, by omega⟩, ?_⟩; (conv => whnf))))
    refine new_step (.cells #[str wk] 9) rfl fun q h0_q => ?_
    have hE_q := Ext.new h0_q (.cells #[str wk] 9)
    have hB_q := Heap.put_same F2 q (.cells #[str wk] 9)
    generalize F2.put q _ = F3 at hE_q hB_q ⊢
    ((conv => whnf); repeat (first | (apply load_at; (conv => lhs; whnf); (with_reducible assumption); rfl; (conv => whnf)) | (apply load_at; (conv => lhs; rw [add_plain, add_plain]); (with_reducible assumption); rfl; (conv => whnf)) | (apply loads_at; (conv => lhs; whnf); (with_reducible assumption); rfl; (conv => whnf)) | (refine ⟨⟨by omega, by omega⟩, ?_⟩; (conv => whnf))))
    refine new_step (wrO (.slice (some ⟨q, 0, none⟩) 1 1)) rfl fun w h0_w => ?_
    have hE_w := Ext.new h0_w (wrO (.slice (some ⟨q, 0, none⟩) 1 1))
    have hB_w := Heap.put_same F3 w (wrO (.slice (some ⟨q, 0, none⟩) 1 1))
    generalize F3.put w _ = F4 at hE_w hB_w ⊢
    ((conv => whnf); repeat (first | (apply load_at; (conv => lhs; whnf); (with_reducible assumption); rfl; (conv => whnf)) | (apply load_at; (conv => lhs; rw [add_plain, add_plain]); (with_reducible assumption); rfl; (conv => whnf)) | (apply loads_at; (conv => lhs; whnf); (with_reducible assumption); rfl; (conv => whnf)) | (refine ⟨⟨by omega, by omega⟩, ?_⟩; (conv => whnf))))
    refine hK _ _ ?_
    refine ⟨w, rfl, rfl, _, hB_w, hE2.none (hE_q.none h0_w), ?_⟩
    exact (mine_blk (F0 := F1) (hE2.trans hE_q) (hE2.none h0_q) hB_q rfl (Nat.le_refl 1)).mono hE_w
  rintro env' F2 ⟨w, q1, q3, hw2⟩
  refine short [1, 3] [.pointer (some ⟨b, 0, none⟩), .pointer (some ⟨w, 0, none⟩)] (by simp only [List.map_cons, List.map_nil, q1, q3]) fun ρ => ?_
  have hb2 := hw2.ext _ _ hB_b
  ((conv => whnf); repeat (first | (apply load_at; (conv => lhs; whnf); (with_reducible assumption); rfl; (conv => whnf)) | (apply load_at; (conv => lhs; rw [add_plain, add_plain]); (with_reducible assumption); rfl; (conv => whnf)) | (apply loads_at; (conv => lhs; whnf); (with_reducible assumption); rfl; (conv => whnf)) | (refine ⟨⟨by omega, by omega⟩, ?_⟩; (conv => whnf))))
  refine call_of (hask F2) ?_
  rintro v F3 ⟨⟨B, cc, rfl, hrB, hfB⟩, hE3⟩
  obtain ⟨G, hwG, hEG, hrG⟩ := hw2.row hE3 hrB hfB
  have hrG0 : RowAt G A (linesV ls) := (hr.mono hE_b).mono hEG
  have hbG := hEG _ _ hB_b
  ((conv => whnf); repeat (first | (apply load_at; (conv => lhs; whnf); (with_reducible assumption); rfl; (conv => whnf)) | (apply load_at; (conv => lhs; rw [add_plain, add_plain]); (with_reducible assumption); rfl; (conv => whnf)) | (apply loads_at; (conv => lhs; whnf); (with_reducible assumption); rfl; (conv => whnf)) | (refine ⟨⟨by omega, by omega⟩, ?_⟩; (conv => whnf))))
  refine loop_slots [1, 3, 17, 18, 19] (fun m vs F' => ∃ j : Nat, j + m = fs.length ∧ vs = [.pointer (some ⟨b, 0, none⟩), .pointer (some ⟨w, 0, none⟩), .slice B fs.length cc, .int .i64 (fs.length : Int), .int .i64 (j : Int)] ∧ WSt G F' w (wk :: Wf (fs.take j))) fs.length ⟨0, by omega, rfl, by rw [List.take_zero, h0W]; exact hwG⟩ ?_
  rintro m vs F4 ρ ⟨j, hjm, rfl, hw4⟩
  have hb4 := hw4.ext _ _ hbG
  ((conv => whnf); repeat (first | (apply load_at; (conv => lhs; whnf); (with_reducible assumption); rfl; (conv => whnf)) | (apply load_at; (conv => lhs; rw [add_plain, add_plain]); (with_reducible assumption); rfl; (conv => whnf)) | (apply loads_at; (conv => lhs; whnf); (with_reducible assumption); rfl; (conv => whnf)) | (refine ⟨⟨by omega, by omega⟩, ?_⟩; (conv => whnf))))
  refine cond_split (fun h => ?_) (fun h => ?_)
  · have hj : j < fs.length := by have := of_decide_eq_true h; omega
    obtain ⟨ad, rfl⟩ := hrG.some (by rw [List.length_map]; omega)
    have hws : IntKind.i64.wrap ((j : Int) + 1) = ((j + 1 : Nat) : Int) := wrap_succ (by omega)
    have hc : F4.cell? (ad.add (Int.toNat (j : Int) * 1)) = some (.int .i64 ((fs[j] : Nat) : Int)) := by
      rw [Int.toNat_natCast, Nat.mul_one]
      exact (hrG.mono hw4.ext).cell (by rw [List.getElem?_map, List.getElem?_eq_getElem hj]; rfl)
    have hf := hal fs[j] (List.getElem_mem hj)
    have ht := htk fs j fs[j] (List.getElem?_eq_getElem hj)
    generalize fs[j] = fl at hc hf ht
    have hlen := hlw (fs.take j)
    rw [List.length_take] at hlen
    have hmul : min j fs.length * (1 + 3 * ls.length) ≤ 7 * (1 + 3 * ls.length) := Nat.mul_le_mul_right _ (by omega)
    ((conv => whnf); repeat (first | (apply load_at; (conv => lhs; whnf); (with_reducible assumption); rfl; (conv => whnf)) | (apply load_at; (conv => lhs; rw [add_plain, add_plain]); (with_reducible assumption); rfl; (conv => whnf)) | (apply loads_at; (conv => lhs; whnf); (with_reducible assumption); rfl; (conv => whnf)) | (refine ⟨⟨by omega, by omega⟩, ?_⟩; (conv => whnf))))
    refine load_step hc ?_
    ((conv => whnf); repeat (first | (apply load_at; (conv => lhs; whnf); (with_reducible assumption); rfl; (conv => whnf)) | (apply load_at; (conv => lhs; rw [add_plain, add_plain]); (with_reducible assumption); rfl; (conv => whnf)) | (apply loads_at; (conv => lhs; whnf); (with_reducible assumption); rfl; (conv => whnf)) | (refine ⟨⟨by omega, by omega⟩, ?_⟩; (conv => whnf))))
    refine call_of (hwf fl hf _ G F4 w hw4 hrG0 (by rw [List.length_cons]; omega)) ?_
    rintro v F5 hw5
    ((conv => whnf); repeat (first | (apply load_at; (conv => lhs; whnf); (with_reducible assumption); rfl; (conv => whnf)) | (apply load_at; (conv => lhs; rw [add_plain, add_plain]); (with_reducible assumption); rfl; (conv => whnf)) | (apply loads_at; (conv => lhs; whnf); (with_reducible assumption); rfl; (conv => whnf)) | (refine ⟨⟨by omega, by omega⟩, ?_⟩; (conv => whnf))))
    refine ⟨m - 1, by omega, j + 1, by omega, ?_, ?_⟩
    · rw [← hws]
      rfl
    · rw [ht]
      exact hw5
  · have hj : j = fs.length := by have := of_decide_eq_false h; omega
    rw [hj, List.take_length] at hw4
    obtain ⟨S, hS, hS0, hM⟩ := hw4
    obtain ⟨A5, c5, rfl, hc5, hr5⟩ := hM.own.row
    ((conv => whnf); repeat (first | (apply load_at; (conv => lhs; whnf); (with_reducible assumption); rfl; (conv => whnf)) | (apply load_at; (conv => lhs; rw [add_plain, add_plain]); (with_reducible assumption); rfl; (conv => whnf)) | (apply loads_at; (conv => lhs; whnf); (with_reducible assumption); rfl; (conv => whnf)) | (refine ⟨⟨by omega, by omega⟩, ?_⟩; (conv => whnf))))
    refine call_of (join (wk :: Wf fs) A5 c5 F4 hr5 hc5 hpl) ?_
    rintro v F5 ⟨rfl, hE5⟩
    ((conv => whnf); repeat (first | (apply load_at; (conv => lhs; whnf); (with_reducible assumption); rfl; (conv => whnf)) | (apply load_at; (conv => lhs; rw [add_plain, add_plain]); (with_reducible assumption); rfl; (conv => whnf)) | (apply loads_at; (conv => lhs; whnf); (with_reducible assumption); rfl; (conv => whnf)) | (refine ⟨⟨by omega, by omega⟩, ?_⟩; (conv => whnf))))
    exact ⟨rfl, (hE_b.trans hEG).trans (hM.ext.trans hE5)⟩
end Go.Proofs.Ytbgijjoemnfnmaa.Al
/- exchequer/text.Print. -/
namespace Go.Proofs.Ytbgijjoemnfnmaa.Al
open Go Go.Al Go.Proofs Go.RowKit
set_option maxHeartbeats 8000000
set_option maxRecDepth 100000
set_option linter.unusedVariables false
set_option linter.unusedSimpArgs false
/-- What Print answers, by what Parse reads. -/
def PrintRel (P : List UInt8 → CD × Int) (cd : CD) (out : List UInt8 × Int) : Prop := (mayB cd = true ∧ P (printP cd) = (cd, 0) → out = (printP cd, 0)) ∧ (¬ (mayB cd = true ∧ P (printP cd) = (cd, 0)) → out = ([], 1))
theorem okC_fold {N : Nat} : ∀ (fs : List Nat) (q : CD × RD), OkC N q → OkC N (foldS fs q)
  | [], q, h => h
  | f :: fs, q, h => okC_fold fs _ (okC_field f h)
theorem parseS_len (s : List UInt8) : (parseS s).1.ls.length ≤ 10000 := by
  unfold parseS
  split
  · exact Nat.zero_le _
  · next h4 =>
    split
    · exact Nat.zero_le _
    split
    · exact Nat.zero_le _
    · refine Nat.le_trans (okC_fold (N := 4096) _ _ ⟨Nat.zero_le _, Nat.zero_le _, ?_⟩).2.1 (by decide)
      exact Nat.le_trans (wordS_len ⟨s, true, false⟩).2 (by show s.length ≤ _; omega)
theorem printT (cd : CD) (hR : CdR cd) (A : Option Addr) (c : Nat) (F : Heap) (hr : RowAt F A (linesV cd.ls)) (hn : cd.nm.length ≤ 100000) (hl : cd.ls.length ≤ 10000) :
    FnK Try.prog 14 #[aggOf cd A c] F (fun v F' => (∃ out, v = .tuple #[str out.1, .int .i64 out.2] ∧ PrintRel parseS cd out) ∧ Ext F F') := by
  have hpr := fun hk F h => print cd hk hR A c F h hn hl
  have hpa := parse (printP cd)
  have hPR : ∀ out, PrintRel parseS cd out ↔ (mayB cd = true ∧ parseS (printP cd) = (cd, 0) → out = (printP cd, 0)) ∧ (¬ (mayB cd = true ∧ parseS (printP cd) = (cd, 0)) → out = ([], 1)) := fun out => Iff.rfl
  have hpl := parseS_len (printP cd)
  generalize parseS (printP cd) = q at hpa hPR hpl
  generalize printP cd = s at hpr hpa hPR
  have hkn : mayB cd = true → knownB cd.k = true := fun h => ((mayB_iff cd).1 h).1
  obtain ⟨k, y, x, f, o, n, p, d, l, a, ab, nm, ls⟩ := cd
  obtain ⟨⟨k', y', x', f', o', n', p', d', l', a', ab', nm', ls'⟩, e⟩ := q
  replace hpl : ls'.length ≤ 10000 := hpl
  replace hl : ls.length ≤ 10000 := hl
  have hen := fun F h => encode k y x f o n p d l a ab nm ls A c F h hn hl
  have hsm := fun B cc F h h' => same k y x f o n p d l a ab nm ls k' y' x' f' o' n' p' d' l' a' ab' nm' ls' A B c cc F h h' hl hpl
  replace hpr : knownB k = true → ∀ F, RowAt F A (linesV ls) → FnK Try.prog 27 #[.agg (cmdC k y x f o n p d l a ab ⟨nm.toArray⟩ (.slice A ls.length c))] F (fun v F' => v = str s ∧ Ext F F') := hpr
  replace hpa : ∀ F, FnK Try.prog 7 #[str s] F (fun v F' => (∃ B cc, v = .tuple #[.agg (cmdC k' y' x' f' o' n' p' d' l' a' ab' ⟨nm'.toArray⟩ (.slice B ls'.length cc)), .int .i64 e] ∧ RowAt F' B (linesV ls')) ∧ Ext F F') := hpa
  replace hr : RowAt F A (linesV ls) := hr
  replace hPR : ∀ out, PrintRel parseS ⟨k, y, x, f, o, n, p, d, l, a, ab, nm, ls⟩ out ↔ (mayB ⟨k, y, x, f, o, n, p, d, l, a, ab, nm, ls⟩ = true ∧ ((⟨k', y', x', f', o', n', p', d', l', a', ab', nm', ls'⟩, e) : CD × Int) = (⟨k, y, x, f, o, n, p, d, l, a, ab, nm, ls⟩, 0) → out = (s, 0)) ∧ (¬ (mayB ⟨k, y, x, f, o, n, p, d, l, a, ab, nm, ls⟩ = true ∧ ((⟨k', y', x', f', o', n', p', d', l', a', ab', nm', ls'⟩, e) : CD × Int) = (⟨k, y, x, f, o, n, p, d, l, a, ab, nm, ls⟩, 0)) → out = ([], 1)) := hPR
  generalize mayB ⟨k, y, x, f, o, n, p, d, l, a, ab, nm, ls⟩ = q at hen hPR hkn
  replace hkn : q = true → knownB k = true := hkn
  (refine fn_walk tab_ok Try.func14 rfl rfl rfl rfl ?_; (conv => whnf))
  refine new_step (cmdO k y x f o n p d l a ab ⟨nm.toArray⟩ (.slice A ls.length c)) rfl fun b h0_b => ?_
  have hE_b := Ext.new h0_b (cmdO k y x f o n p d l a ab ⟨nm.toArray⟩ (.slice A ls.length c))
  have hB_b := Heap.put_same F b (cmdO k y x f o n p d l a ab ⟨nm.toArray⟩ (.slice A ls.length c))
  generalize F.put b _ = F1 at hE_b hB_b ⊢
  ((conv => whnf); repeat (first | (apply load_at; (conv => lhs; whnf); (with_reducible assumption); rfl; (conv => whnf)) | (apply load_at; (conv => lhs; rw [add_plain, add_plain]); (with_reducible assumption); rfl; (conv => whnf)) | (apply loads_at; (conv => lhs; whnf); (with_reducible assumption); rfl; (conv => whnf)) | (refine ⟨⟨by omega, by omega⟩, ?_⟩; (conv => whnf))))
  refine call_of (hen F1 (hr.mono hE_b)) ?_
  rintro v F2 ⟨⟨rr, rfl, _⟩, hE2⟩
  have hb2 := hE2 _ _ hB_b
  have hE := hE_b.trans hE2
  cases q with
  | false =>
    ((conv => whnf); repeat (first | (apply load_at; (conv => lhs; whnf); (with_reducible assumption); rfl; (conv => whnf)) | (apply load_at; (conv => lhs; rw [add_plain, add_plain]); (with_reducible assumption); rfl; (conv => whnf)) | (apply loads_at; (conv => lhs; whnf); (with_reducible assumption); rfl; (conv => whnf)) | (refine ⟨⟨by omega, by omega⟩, ?_⟩; (conv => whnf))))
    exact ⟨⟨([], 1), rfl, (hPR _).2 ⟨fun h => absurd h.1 (by decide), fun _ => rfl⟩⟩, hE⟩
  | true =>
    ((conv => whnf); repeat (first | (apply load_at; (conv => lhs; whnf); (with_reducible assumption); rfl; (conv => whnf)) | (apply load_at; (conv => lhs; rw [add_plain, add_plain]); (with_reducible assumption); rfl; (conv => whnf)) | (apply loads_at; (conv => lhs; whnf); (with_reducible assumption); rfl; (conv => whnf)) | (refine ⟨⟨by omega, by omega⟩, ?_⟩; (conv => whnf))))
    refine call_of (hpr (hkn rfl) F2 (hr.mono hE)) ?_
    rintro v F3 ⟨rfl, hE3⟩
    have hb3 := hE3 _ _ hb2
    replace hE := hE.trans hE3
    ((conv => whnf); repeat (first | (apply load_at; (conv => lhs; whnf); (with_reducible assumption); rfl; (conv => whnf)) | (apply load_at; (conv => lhs; rw [add_plain, add_plain]); (with_reducible assumption); rfl; (conv => whnf)) | (apply loads_at; (conv => lhs; whnf); (with_reducible assumption); rfl; (conv => whnf)) | (refine ⟨⟨by omega, by omega⟩, ?_⟩; (conv => whnf))))
    refine call_of (hpa F3) ?_
    rintro v F4 ⟨⟨B, cc, rfl, hrB⟩, hE4⟩
    have hb4 := hE4 _ _ hb3
    replace hE := hE.trans hE4
    ((conv => whnf); repeat (first | (apply load_at; (conv => lhs; whnf); (with_reducible assumption); rfl; (conv => whnf)) | (apply load_at; (conv => lhs; rw [add_plain, add_plain]); (with_reducible assumption); rfl; (conv => whnf)) | (apply loads_at; (conv => lhs; whnf); (with_reducible assumption); rfl; (conv => whnf)) | (refine ⟨⟨by omega, by omega⟩, ?_⟩; (conv => whnf))))
    refine new_step (cmdO 0 0 0 0 0 0 0 0 0 0 false ⟨#[]⟩ (.slice none 0 0)) rfl fun z h0_z => ?_
    have hE_z := Ext.new h0_z (cmdO 0 0 0 0 0 0 0 0 0 0 false ⟨#[]⟩ (.slice none 0 0))
    have hB_z := Heap.put_same F4 z (cmdO 0 0 0 0 0 0 0 0 0 0 false ⟨#[]⟩ (.slice none 0 0))
    generalize F4.put z _ = F5 at hE_z hB_z ⊢
    ((conv => whnf); repeat (first | (apply load_at; (conv => lhs; whnf); (with_reducible assumption); rfl; (conv => whnf)) | (apply load_at; (conv => lhs; rw [add_plain, add_plain]); (with_reducible assumption); rfl; (conv => whnf)) | (apply loads_at; (conv => lhs; whnf); (with_reducible assumption); rfl; (conv => whnf)) | (refine ⟨⟨by omega, by omega⟩, ?_⟩; (conv => whnf))))
    refine store_step z 0 _ (cmdC k' y' x' f' o' n' p' d' l' a' ab' ⟨nm'.toArray⟩ (.slice B ls'.length cc)) rfl hB_z rfl rfl (.inl (Nat.le_refl 0)) (cmd_ones _ _ _ _ _ _ _ _ _ _ _ _ _ _ _) ?_
    have hz6 := Heap.put_same F5 z (cmdO k' y' x' f' o' n' p' d' l' a' ab' ⟨nm'.toArray⟩ (.slice B ls'.length cc))
    have hE6 : Ext F4 (F5.put z (cmdO k' y' x' f' o' n' p' d' l' a' ab' ⟨nm'.toArray⟩ (.slice B ls'.length cc))) := hE_z.put h0_z _
    generalize F5.put z _ = F6 at hz6 hE6 ⊢
    have hb6 := hE6 _ _ hb4
    replace hE := hE.trans hE6
    refine short [1, 6, 7, 22] [.pointer (some ⟨b, 0, none⟩), str s, .pointer (some ⟨z, 0, none⟩), .int .i64 e] rfl fun ρ => ?_
    ((conv => whnf); repeat (first | (apply load_at; (conv => lhs; whnf); (with_reducible assumption); rfl; (conv => whnf)) | (apply load_at; (conv => lhs; rw [add_plain, add_plain]); (with_reducible assumption); rfl; (conv => whnf)) | (apply loads_at; (conv => lhs; whnf); (with_reducible assumption); rfl; (conv => whnf)) | (refine ⟨⟨by omega, by omega⟩, ?_⟩; (conv => whnf))))
    refine cond_split (fun h => ?_) (fun h => ?_)
    · have he : e = 0 := by
        have h : (!(!decide (e = 0))) = true := h
        simpa using h
      ((conv => whnf); repeat (first | (apply load_at; (conv => lhs; whnf); (with_reducible assumption); rfl; (conv => whnf)) | (apply load_at; (conv => lhs; rw [add_plain, add_plain]); (with_reducible assumption); rfl; (conv => whnf)) | (apply loads_at; (conv => lhs; whnf); (with_reducible assumption); rfl; (conv => whnf)) | (refine ⟨⟨by omega, by omega⟩, ?_⟩; (conv => whnf))))
      refine call_of (hsm B cc F6 (hr.mono hE) ((hrB.mono hE6))) ?_
      rintro v F7 ⟨⟨t, rfl, ht⟩, hE7⟩
      replace hE := hE.trans hE7
      cases t with
      | true =>
        ((conv => whnf); repeat (first | (apply load_at; (conv => lhs; whnf); (with_reducible assumption); rfl; (conv => whnf)) | (apply load_at; (conv => lhs; rw [add_plain, add_plain]); (with_reducible assumption); rfl; (conv => whnf)) | (apply loads_at; (conv => lhs; whnf); (with_reducible assumption); rfl; (conv => whnf)) | (refine ⟨⟨by omega, by omega⟩, ?_⟩; (conv => whnf))))
        refine ⟨⟨(s, 0), rfl, (hPR _).2 ⟨fun _ => rfl, fun hno => absurd ⟨rfl, ?_⟩ hno⟩⟩, hE⟩
        rw [ht.1 rfl, he]
      | false =>
        ((conv => whnf); repeat (first | (apply load_at; (conv => lhs; whnf); (with_reducible assumption); rfl; (conv => whnf)) | (apply load_at; (conv => lhs; rw [add_plain, add_plain]); (with_reducible assumption); rfl; (conv => whnf)) | (apply loads_at; (conv => lhs; whnf); (with_reducible assumption); rfl; (conv => whnf)) | (refine ⟨⟨by omega, by omega⟩, ?_⟩; (conv => whnf))))
        refine ⟨⟨([], 1), rfl, (hPR _).2 ⟨fun hyes => ?_, fun _ => rfl⟩⟩, hE⟩
        have := ht.2 (Prod.mk.inj hyes.2).1.symm
        cases this
    · have he : ¬ e = 0 := by
        have h : (!(!decide (e = 0))) = false := h
        simpa using h
      ((conv => whnf); repeat (first | (apply load_at; (conv => lhs; whnf); (with_reducible assumption); rfl; (conv => whnf)) | (apply load_at; (conv => lhs; rw [add_plain, add_plain]); (with_reducible assumption); rfl; (conv => whnf)) | (apply loads_at; (conv => lhs; whnf); (with_reducible assumption); rfl; (conv => whnf)) | (refine ⟨⟨by omega, by omega⟩, ?_⟩; (conv => whnf))))
      refine ⟨⟨([], 1), rfl, (hPR _).2 ⟨fun hyes => ?_, fun _ => rfl⟩⟩, hE⟩
      exact absurd (Prod.mk.inj hyes.2).2 he
end Go.Proofs.Ytbgijjoemnfnmaa.Al
/- exchequerref48.cut and number. -/
namespace Go.Proofs.Ytbgijjoemnfnmaa.Al
open Go Go.Al Go.Proofs Go.RowKit
set_option maxHeartbeats 8000000
set_option maxRecDepth 100000
set_option linter.unusedVariables false
set_option linter.unusedSimpArgs false
theorem cutL_pre : ∀ (j : Nat) (l : List UInt8), (∀ x ∈ l.take j, x ≠ 32) → cutL l = (l.take j ++ (cutL (l.drop j)).1, (cutL (l.drop j)).2)
  | 0, l, _ => rfl
  | j + 1, [], _ => rfl
  | j + 1, b :: l, h => by
    rw [List.take_succ_cons] at h
    have hb : b ≠ 32 := h b (by simp)
    rw [cutL_cons, if_neg hb, cutL_pre j l fun x hx => h x (by simp [hx])]
    rfl
theorem str_get (l : List UInt8) (j : Nat) : (⟨l.toArray⟩ : ByteArray)[j]? = l[j]? := by
  by_cases hj : j < l.length
  · rw [getElem?_pos (⟨l.toArray⟩ : ByteArray) j hj, getElem?_pos l j hj]
    rfl
  · rw [getElem?_neg (⟨l.toArray⟩ : ByteArray) j hj, getElem?_neg l j hj]
theorem rcut (l : List UInt8) (hl : l.length ≤ 1000000) (F : Heap) : FnK Try.prog 21 #[str l] F (fun v F' => v = .tuple #[str (cutL l).1, str (cutL l).2.1, .bool (cutL l).2.2] ∧ F' = F) := by
  have hsz : (⟨l.toArray⟩ : ByteArray).size = l.length := rfl
  have hget : ∀ (j : Nat) (b : UInt8), (⟨l.toArray⟩ : ByteArray)[j]? = some b → l[j]? = some b := by
    intro j b h
    rw [str_get] at h
    exact h
  (refine fn_walk tab_ok Try.func21 rfl rfl rfl rfl ?_; (conv => whnf))
  refine loop_slots [0, 5] (fun k vs F' => ∃ j : Nat, j + k = l.length ∧ vs = [str l, .int .i64 (j : Int)] ∧ (∀ x ∈ l.take j, x ≠ 32) ∧ F' = F) l.length ⟨0, by omega, rfl, by simp, rfl⟩ ?_
  rintro k vs F2 ρ ⟨j, hjk, rfl, hno, rfl⟩
  ((conv => whnf); repeat (first | (apply load_at; (conv => lhs; whnf); (with_reducible assumption); rfl; (conv => whnf)) | (apply load_at; (conv => lhs; rw [add_plain, add_plain]); (with_reducible assumption); rfl; (conv => whnf)) | (apply loads_at; (conv => lhs; whnf); (with_reducible assumption); rfl; (conv => whnf)) | (refine ⟨⟨by omega, by omega⟩, ?_⟩; (conv => whnf))))
  refine cond_split (fun h => ?_) (fun h => ?_)
  · have hj : j < l.length := by have := of_decide_eq_true h; omega
    have hws : IntKind.i64.wrap ((j : Int) + 1) = ((j + 1 : Nat) : Int) := wrap_succ (by omega)
    have hx : l[j]? = some l[j] := List.getElem?_eq_getElem hj
    have hdr : l.drop j = l[j] :: l.drop (j + 1) := List.drop_eq_getElem_cons hj
    have hpre := cutL_pre j l hno
    rw [hdr, cutL_cons] at hpre
    have htk : l.take (j + 1) = l.take j ++ [l[j]] := by rw [List.take_add_one, hx]; rfl
    generalize l[j] = u at hx hpre htk
    ((conv => whnf); repeat (first | (apply load_at; (conv => lhs; whnf); (with_reducible assumption); rfl; (conv => whnf)) | (apply load_at; (conv => lhs; rw [add_plain, add_plain]); (with_reducible assumption); rfl; (conv => whnf)) | (apply loads_at; (conv => lhs; whnf); (with_reducible assumption); rfl; (conv => whnf)) | (refine ⟨⟨by omega, by omega⟩, ?_⟩; (conv => whnf))))
    intro b hb
    obtain rfl : b = u := by
      have := hget j b (by rw [← hb, Int.toNat_natCast])
      rw [hx] at this
      exact (Option.some.inj this).symm
    ((conv => whnf); repeat (first | (apply load_at; (conv => lhs; whnf); (with_reducible assumption); rfl; (conv => whnf)) | (apply load_at; (conv => lhs; rw [add_plain, add_plain]); (with_reducible assumption); rfl; (conv => whnf)) | (apply loads_at; (conv => lhs; whnf); (with_reducible assumption); rfl; (conv => whnf)) | (refine ⟨⟨by omega, by omega⟩, ?_⟩; (conv => whnf))))
    refine cond_split (fun h => ?_) (fun h => ?_)
    · have hb32 : b = 32 := by
        have h : decide ((b.toNat : Int) = 32) = true := h
        have := of_decide_eq_true h
        exact UInt8.toNat_inj.1 (by show b.toNat = 32; omega)
      rw [if_pos hb32] at hpre
      have e1 := str_cut l 0 j
      have e2 := str_cut l (j + 1) l.length
      rw [List.drop_zero, Nat.sub_zero] at e1
      rw [List.take_of_length_le (by rw [List.length_drop]; exact Nat.le_refl _)] at e2
      ((conv => whnf); repeat (first | (apply load_at; (conv => lhs; whnf); (with_reducible assumption); rfl; (conv => whnf)) | (apply load_at; (conv => lhs; rw [add_plain, add_plain]); (with_reducible assumption); rfl; (conv => whnf)) | (apply loads_at; (conv => lhs; whnf); (with_reducible assumption); rfl; (conv => whnf)) | (refine ⟨⟨by omega, by omega⟩, ?_⟩; (conv => whnf))))
      refine draw_walk tab_ok (by kernel_rfl) [0, 1, 2, 3, 4, 5, 6, 7, 8, 9] (by kernel_rfl) ?_
      ((conv => whnf); repeat (first | (apply load_at; (conv => lhs; whnf); (with_reducible assumption); rfl; (conv => whnf)) | (apply load_at; (conv => lhs; rw [add_plain, add_plain]); (with_reducible assumption); rfl; (conv => whnf)) | (apply loads_at; (conv => lhs; whnf); (with_reducible assumption); rfl; (conv => whnf)) | (refine ⟨⟨by omega, by omega⟩, ?_⟩; (conv => whnf))))
      have hws2 : IntKind.i64.wrap ((j : Int) + 1) = ((j + 1 : Nat) : Int) := hws
      rw [hpre]
      refine ⟨?_, rfl⟩
      show Value.tuple #[.string ((⟨l.toArray⟩ : ByteArray).extract 0 j), .string ((⟨l.toArray⟩ : ByteArray).extract (Int.toNat (IntKind.i64.wrap ((j : Int) + 1))) l.length), .bool true] = _
      rw [hws2, Int.toNat_natCast, e1, e2, List.append_nil]
    · have hb32 : b ≠ 32 := by
        have h : decide ((b.toNat : Int) = 32) = false := h
        have := of_decide_eq_false h
        rintro rfl
        exact this rfl
      ((conv => whnf); repeat (first | (apply load_at; (conv => lhs; whnf); (with_reducible assumption); rfl; (conv => whnf)) | (apply load_at; (conv => lhs; rw [add_plain, add_plain]); (with_reducible assumption); rfl; (conv => whnf)) | (apply loads_at; (conv => lhs; whnf); (with_reducible assumption); rfl; (conv => whnf)) | (refine ⟨⟨by omega, by omega⟩, ?_⟩; (conv => whnf))))
      refine ⟨k - 1, by omega, j + 1, by omega, ?_, ?_, rfl⟩
      · rw [← hws]
        rfl
      · rw [htk]
        intro x hx
        rcases List.mem_append.1 hx with h | h
        · exact hno x h
        · rw [List.mem_singleton.1 h]; exact hb32
  · have hj : j = l.length := by have := of_decide_eq_false h; omega
    have hpre := cutL_pre j l hno
    rw [hj, List.take_length, List.drop_length] at hpre
    have hpre : cutL l = (l ++ [], [], false) := hpre
    rw [List.append_nil] at hpre
    ((conv => whnf); repeat (first | (apply load_at; (conv => lhs; whnf); (with_reducible assumption); rfl; (conv => whnf)) | (apply load_at; (conv => lhs; rw [add_plain, add_plain]); (with_reducible assumption); rfl; (conv => whnf)) | (apply loads_at; (conv => lhs; whnf); (with_reducible assumption); rfl; (conv => whnf)) | (refine ⟨⟨by omega, by omega⟩, ?_⟩; (conv => whnf))))
    exact ⟨by rw [hpre]; rfl, rfl⟩
end Go.Proofs.Ytbgijjoemnfnmaa.Al
/- exchequerref48.number. -/
namespace Go.Proofs.Ytbgijjoemnfnmaa.Al
open Go Go.Al Go.Proofs Go.RowKit
set_option maxHeartbeats 8000000
set_option maxRecDepth 100000
set_option linter.unusedVariables false
set_option linter.unusedSimpArgs false
def rnumD (ds : List UInt8) (below : Bool) (n : Nat) : Int := if (decide (n ≤ 20) && ds.all isDig) = true then (if below = true then digFold ds else IntKind.i64.wrap (0 - digFold ds)) else 0
def rnumV (w : List UInt8) : Int := rnumD (minusL w).1 (minusL w).2 w.length
theorem rnumV_range (w : List UInt8) : R64 (rnumV w) := by
  unfold rnumV rnumD R64
  split
  · split
    · exact digFold_range _
    · rw [IntKind.wrap_i64]
      omega
  · exact ⟨by decide, by decide⟩
theorem rnumV_txt (n : Int) (h : R64 n) : rnumV (txt n) = n := by
  have hv := numV_txt n h.1 h.2
  have hl := txt_len n h
  unfold numV at hv
  unfold rnumV rnumD
  by_cases ho : okD (minusL (txt n)).1 = true
  · rw [if_pos ho] at hv
    have hd : (minusL (txt n)).1.all isDig = true := by
      unfold okD at ho
      rw [Bool.and_eq_true] at ho
      exact ho.1
    rw [hd, decide_eq_true hl, Bool.true_and, if_pos rfl]
    exact (Prod.mk.inj hv).1
  · rw [if_neg ho] at hv
    cases (Prod.mk.inj hv).2
theorem all_take_dig {ds : List UInt8} {j : Nat} {x : UInt8} (hx : ds[j]? = some x) (h : (ds.take j).all isDig = true) : (isDig x = true → (ds.take (j + 1)).all isDig = true) ∧ (isDig x = false → ds.all isDig = false) := by
  obtain ⟨hj, hx'⟩ := List.getElem?_eq_some_iff.1 hx
  constructor
  · intro e
    rw [List.take_add_one, hx, List.all_append, h]
    simp [e]
  · intro e
    rw [← Bool.not_eq_true, List.all_eq_true]
    intro hh
    rw [hh x (hx' ▸ List.getElem_mem hj)] at e
    cases e
theorem number (w : List UInt8) (hl : w.length ≤ 1000000) (F : Heap) : FnK Try.prog 39 #[str w] F (fun v F' => v = .int .i64 (rnumV w) ∧ F' = F) := by
  have hsz : (⟨w.toArray⟩ : ByteArray).size = w.length := rfl
  cases w with
  | nil =>
    (refine fn_walk tab_ok Try.func39 rfl rfl rfl rfl ?_; (conv => whnf))
    refine loop_slots [0, 3, 4, 5] (fun k vs F' => vs = [str [], .int .i64 0, .int .i64 0, .int .i64 0] ∧ F' = F) 0 ⟨rfl, rfl⟩ ?_
    rintro k vs F2 ρ ⟨rfl, rfl⟩
    ((conv => whnf); repeat (first | (apply load_at; (conv => lhs; whnf); (with_reducible assumption); rfl; (conv => whnf)) | (apply load_at; (conv => lhs; rw [add_plain, add_plain]); (with_reducible assumption); rfl; (conv => whnf)) | (apply loads_at; (conv => lhs; whnf); (with_reducible assumption); rfl; (conv => whnf)) | (refine ⟨⟨by omega, by omega⟩, ?_⟩; (conv => whnf))))
    exact ⟨rfl, rfl⟩
  | cons b l =>
    have hmi : minusL (b :: l) = if b = 45 then (l, true) else (b :: l, false) := rfl
    have hb0 : ∀ c : UInt8, (⟨(b :: l).toArray⟩ : ByteArray)[0]? = some c → c = b := fun c hc => by
      rw [str_get] at hc
      exact (Option.some.inj hc).symm
    have hlen : (b :: l).length = l.length + 1 := rfl
    obtain ⟨z, hz⟩ : ∃ z, z = rnumV (b :: l) := ⟨_, rfl⟩
    rw [← hz]
    unfold rnumV at hz
    rw [hmi] at hz
    (refine fn_walk tab_ok Try.func39 rfl rfl rfl rfl ?_; (conv => whnf))
    refine cond_split (fun _ => ?_) (fun h => ?_)
    case refine_2 =>
      have h : decide (((l.length + 1 : Nat) : Int) > 0) = false := h
      have := of_decide_eq_false h
      omega
    ((conv => whnf); repeat (first | (apply load_at; (conv => lhs; whnf); (with_reducible assumption); rfl; (conv => whnf)) | (apply load_at; (conv => lhs; rw [add_plain, add_plain]); (with_reducible assumption); rfl; (conv => whnf)) | (apply loads_at; (conv => lhs; whnf); (with_reducible assumption); rfl; (conv => whnf)) | (refine ⟨⟨by omega, by omega⟩, ?_⟩; (conv => whnf))))
    intro c hc
    obtain rfl : c = b := hb0 c hc
    ((conv => whnf); repeat (first | (apply load_at; (conv => lhs; whnf); (with_reducible assumption); rfl; (conv => whnf)) | (apply load_at; (conv => lhs; rw [add_plain, add_plain]); (with_reducible assumption); rfl; (conv => whnf)) | (apply loads_at; (conv => lhs; whnf); (with_reducible assumption); rfl; (conv => whnf)) | (refine ⟨⟨by omega, by omega⟩, ?_⟩; (conv => whnf))))
    refine cond_split (fun h45 => ?_) (fun h45 => ?_)
    · have h45 : c = 45 := by
        have h : decide ((c.toNat : Int) = 45) = true := h45
        have := of_decide_eq_true h
        exact UInt8.toNat_inj.1 (by show c.toNat = 45; omega)
      rw [if_pos h45] at hz
      obtain ⟨ds, hds⟩ : ∃ ds, ds = l := ⟨_, rfl⟩
      have hdl : ds.length + 1 = l.length + 1 := by rw [hds]
      replace hz : z = rnumD ds true (l.length + 1) := by rw [hz, hds]; rfl
      have hgw : ∀ (j : Nat) (u : UInt8), (⟨(c :: l).toArray⟩ : ByteArray)[Int.toNat (((1 + j : Nat)) : Int)]? = some u → ds[j]? = some u := fun j u h => by
        rw [Int.toNat_natCast, str_get] at h
        rw [hds]
        rw [Nat.add_comm] at h; exact h
      ((conv => whnf); repeat (first | (apply load_at; (conv => lhs; whnf); (with_reducible assumption); rfl; (conv => whnf)) | (apply load_at; (conv => lhs; rw [add_plain, add_plain]); (with_reducible assumption); rfl; (conv => whnf)) | (apply loads_at; (conv => lhs; whnf); (with_reducible assumption); rfl; (conv => whnf)) | (refine ⟨⟨by omega, by omega⟩, ?_⟩; (conv => whnf))))
      refine cond_split (fun h20 => ?_) (fun h20 => ?_)
      · have h20 : decide (((l.length + 1 : Nat) : Int) > 20) = true := h20
        have := of_decide_eq_true h20
        unfold rnumD at hz
        rw [decide_eq_false (by omega), Bool.false_and, if_neg (by decide)] at hz
        ((conv => whnf); repeat (first | (apply load_at; (conv => lhs; whnf); (with_reducible assumption); rfl; (conv => whnf)) | (apply load_at; (conv => lhs; rw [add_plain, add_plain]); (with_reducible assumption); rfl; (conv => whnf)) | (apply loads_at; (conv => lhs; whnf); (with_reducible assumption); rfl; (conv => whnf)) | (refine ⟨⟨by omega, by omega⟩, ?_⟩; (conv => whnf))))
        exact ⟨by rw [hz]; rfl, rfl⟩
      have h20 : l.length + 1 ≤ 20 := by
        have h : decide (((l.length + 1 : Nat) : Int) > 20) = false := h20
        have := of_decide_eq_false h
        omega
      unfold rnumD at hz
      rw [decide_eq_true h20, Bool.true_and] at hz
      ((conv => whnf); repeat (first | (apply load_at; (conv => lhs; whnf); (with_reducible assumption); rfl; (conv => whnf)) | (apply load_at; (conv => lhs; rw [add_plain, add_plain]); (with_reducible assumption); rfl; (conv => whnf)) | (apply loads_at; (conv => lhs; whnf); (with_reducible assumption); rfl; (conv => whnf)) | (refine ⟨⟨by omega, by omega⟩, ?_⟩; (conv => whnf))))
      refine loop_slots [0, 3, 4, 5] (fun k vs F' => ∃ j : Nat, j + k = ds.length ∧ vs = [str (c :: l), .int .i64 (digFold (ds.take j)), .int .i64 1, .int .i64 ((1 + j : Nat) : Int)] ∧ (ds.take j).all isDig = true ∧ F' = F) ds.length ⟨0, by omega, rfl, rfl, rfl⟩ ?_
      rintro k vs F2 ρ ⟨j, hjk, rfl, hall, rfl⟩
      ((conv => whnf); repeat (first | (apply load_at; (conv => lhs; whnf); (with_reducible assumption); rfl; (conv => whnf)) | (apply load_at; (conv => lhs; rw [add_plain, add_plain]); (with_reducible assumption); rfl; (conv => whnf)) | (apply loads_at; (conv => lhs; whnf); (with_reducible assumption); rfl; (conv => whnf)) | (refine ⟨⟨by omega, by omega⟩, ?_⟩; (conv => whnf))))
      refine cond_split (fun h => ?_) (fun h => ?_)
      · have hj : j < ds.length := by
          have h : decide (((1 + j : Nat) : Int) < ((l.length + 1 : Nat) : Int)) = true := h
          have := of_decide_eq_true h
          omega
        have hws : IntKind.i64.wrap (((1 + j : Nat) : Int) + 1) = ((1 + (j + 1) : Nat) : Int) := by rw [wrap_eq (by omega) (by omega)]; omega
        ((conv => whnf); repeat (first | (apply load_at; (conv => lhs; whnf); (with_reducible assumption); rfl; (conv => whnf)) | (apply load_at; (conv => lhs; rw [add_plain, add_plain]); (with_reducible assumption); rfl; (conv => whnf)) | (apply loads_at; (conv => lhs; whnf); (with_reducible assumption); rfl; (conv => whnf)) | (refine ⟨⟨by omega, by omega⟩, ?_⟩; (conv => whnf))))
        intro u hu
        have hx := hgw j u hu
        have hst := all_take_dig hx hall
        have hfs := digFold_step hx
        have hul : u.toNat < 256 := u.toNat_lt
        have hdv : IntKind.i64.wrap (IntKind.i64.wrap (u.toNat : Int) - 48) = (u.toNat : Int) - 48 := by
          have h1 : IntKind.i64.wrap (u.toNat : Int) = (u.toNat : Int) := wrap_eq (by omega) (by omega)
          rw [h1]
          exact wrap_eq (by omega) (by omega)
        have hsplit : isDig u = (decide (48 ≤ u.toNat) && decide (u.toNat ≤ 57)) := rfl
        ((conv => whnf); repeat (first | (apply load_at; (conv => lhs; whnf); (with_reducible assumption); rfl; (conv => whnf)) | (apply load_at; (conv => lhs; rw [add_plain, add_plain]); (with_reducible assumption); rfl; (conv => whnf)) | (apply loads_at; (conv => lhs; whnf); (with_reducible assumption); rfl; (conv => whnf)) | (refine ⟨⟨by omega, by omega⟩, ?_⟩; (conv => whnf))))
        refine cond_split (fun h1 => ?_) (fun h1 => ?_)
        · have h1 : 48 ≤ u.toNat := by
            have h : (!decide (IntKind.i64.wrap (IntKind.i64.wrap (u.toNat : Int) - 48) < 0)) = true := h1
            rw [hdv] at h
            simp at h
            omega
          ((conv => whnf); repeat (first | (apply load_at; (conv => lhs; whnf); (with_reducible assumption); rfl; (conv => whnf)) | (apply load_at; (conv => lhs; rw [add_plain, add_plain]); (with_reducible assumption); rfl; (conv => whnf)) | (apply loads_at; (conv => lhs; whnf); (with_reducible assumption); rfl; (conv => whnf)) | (refine ⟨⟨by omega, by omega⟩, ?_⟩; (conv => whnf))))
          refine cond_split (fun h2 => ?_) (fun h2 => ?_)
          · have h2 : ¬ u.toNat ≤ 57 := by
              have h : decide (IntKind.i64.wrap (IntKind.i64.wrap (u.toNat : Int) - 48) > 9) = true := h2
              rw [hdv] at h
              have := of_decide_eq_true h
              omega
            have hno := hst.2 (by rw [hsplit, decide_eq_false h2, Bool.and_false])
            rw [hno, if_neg (by decide)] at hz
            ((conv => whnf); repeat (first | (apply load_at; (conv => lhs; whnf); (with_reducible assumption); rfl; (conv => whnf)) | (apply load_at; (conv => lhs; rw [add_plain, add_plain]); (with_reducible assumption); rfl; (conv => whnf)) | (apply loads_at; (conv => lhs; whnf); (with_reducible assumption); rfl; (conv => whnf)) | (refine ⟨⟨by omega, by omega⟩, ?_⟩; (conv => whnf))))
            exact ⟨by rw [hz]; rfl, rfl⟩
          · have h2 : u.toNat ≤ 57 := by
              have h : decide (IntKind.i64.wrap (IntKind.i64.wrap (u.toNat : Int) - 48) > 9) = false := h2
              rw [hdv] at h
              have := of_decide_eq_false h
              omega
            ((conv => whnf); repeat (first | (apply load_at; (conv => lhs; whnf); (with_reducible assumption); rfl; (conv => whnf)) | (apply load_at; (conv => lhs; rw [add_plain, add_plain]); (with_reducible assumption); rfl; (conv => whnf)) | (apply loads_at; (conv => lhs; whnf); (with_reducible assumption); rfl; (conv => whnf)) | (refine ⟨⟨by omega, by omega⟩, ?_⟩; (conv => whnf))))
            refine ⟨k - 1, by omega, j + 1, by omega, ?_, hst.1 (by rw [hsplit, decide_eq_true h1, decide_eq_true h2]; rfl), rfl⟩
            have hv : IntKind.i64.wrap (IntKind.i64.wrap (digFold (ds.take j) * 10) - IntKind.i64.wrap (IntKind.i64.wrap (u.toNat : Int) - 48)) = digFold (ds.take (j + 1)) := by
              rw [hdv, hfs, Int.mul_comm]
              rfl
            rw [← hv, ← hws]
            rfl
        · have h1 : ¬ 48 ≤ u.toNat := by
            have h : (!decide (IntKind.i64.wrap (IntKind.i64.wrap (u.toNat : Int) - 48) < 0)) = false := h1
            rw [hdv] at h
            simp at h
            omega
          have hno := hst.2 (by rw [hsplit, decide_eq_false h1]; rfl)
          rw [hno, if_neg (by decide)] at hz
          ((conv => whnf); repeat (first | (apply load_at; (conv => lhs; whnf); (with_reducible assumption); rfl; (conv => whnf)) | (apply load_at; (conv => lhs; rw [add_plain, add_plain]); (with_reducible assumption); rfl; (conv => whnf)) | (apply loads_at; (conv => lhs; whnf); (with_reducible assumption); rfl; (conv => whnf)) | (refine ⟨⟨by omega, by omega⟩, ?_⟩; (conv => whnf))))
          exact ⟨by rw [hz]; rfl, rfl⟩
      · have hj : j = ds.length := by
          have h : decide (((1 + j : Nat) : Int) < ((l.length + 1 : Nat) : Int)) = false := h
          have := of_decide_eq_false h
          omega
        rw [hj, List.take_length] at hall
        rw [hall, if_pos rfl, if_pos rfl] at hz
        ((conv => whnf); repeat (first | (apply load_at; (conv => lhs; whnf); (with_reducible assumption); rfl; (conv => whnf)) | (apply load_at; (conv => lhs; rw [add_plain, add_plain]); (with_reducible assumption); rfl; (conv => whnf)) | (apply loads_at; (conv => lhs; whnf); (with_reducible assumption); rfl; (conv => whnf)) | (refine ⟨⟨by omega, by omega⟩, ?_⟩; (conv => whnf))))
        refine ⟨?_, rfl⟩
        rw [hz]
        have htl : ds.take j = ds := by rw [hj, List.take_length]
        show Value.int .i64 (digFold (ds.take j)) = _
        rw [htl]
    · have h45 : ¬ c = 45 := by
        have h : decide ((c.toNat : Int) = 45) = false := h45
        have := of_decide_eq_false h
        rintro rfl
        exact this rfl
      rw [if_neg h45] at hz
      obtain ⟨ds, hds⟩ : ∃ ds, ds = (c :: l) := ⟨_, rfl⟩
      have hdl : ds.length + 0 = l.length + 1 := by rw [hds]; rfl
      replace hz : z = rnumD ds false (l.length + 1) := by rw [hz, hds]; rfl
      have hgw : ∀ (j : Nat) (u : UInt8), (⟨(c :: l).toArray⟩ : ByteArray)[Int.toNat (((0 + j : Nat)) : Int)]? = some u → ds[j]? = some u := fun j u h => by
        rw [Int.toNat_natCast, str_get] at h
        rw [hds]
        rw [Nat.zero_add] at h; exact h
      ((conv => whnf); repeat (first | (apply load_at; (conv => lhs; whnf); (with_reducible assumption); rfl; (conv => whnf)) | (apply load_at; (conv => lhs; rw [add_plain, add_plain]); (with_reducible assumption); rfl; (conv => whnf)) | (apply loads_at; (conv => lhs; whnf); (with_reducible assumption); rfl; (conv => whnf)) | (refine ⟨⟨by omega, by omega⟩, ?_⟩; (conv => whnf))))
      refine cond_split (fun h20 => ?_) (fun h20 => ?_)
      · have h20 : decide (((l.length + 1 : Nat) : Int) > 20) = true := h20
        have := of_decide_eq_true h20
        unfold rnumD at hz
        rw [decide_eq_false (by omega), Bool.false_and, if_neg (by decide)] at hz
        ((conv => whnf); repeat (first | (apply load_at; (conv => lhs; whnf); (with_reducible assumption); rfl; (conv => whnf)) | (apply load_at; (conv => lhs; rw [add_plain, add_plain]); (with_reducible assumption); rfl; (conv => whnf)) | (apply loads_at; (conv => lhs; whnf); (with_reducible assumption); rfl; (conv => whnf)) | (refine ⟨⟨by omega, by omega⟩, ?_⟩; (conv => whnf))))
        exact ⟨by rw [hz]; rfl, rfl⟩
      have h20 : l.length + 1 ≤ 20 := by
        have h : decide (((l.length + 1 : Nat) : Int) > 20) = false := h20
        have := of_decide_eq_false h
        omega
      unfold rnumD at hz
      rw [decide_eq_true h20, Bool.true_and] at hz
      ((conv => whnf); repeat (first | (apply load_at; (conv => lhs; whnf); (with_reducible assumption); rfl; (conv => whnf)) | (apply load_at; (conv => lhs; rw [add_plain, add_plain]); (with_reducible assumption); rfl; (conv => whnf)) | (apply loads_at; (conv => lhs; whnf); (with_reducible assumption); rfl; (conv => whnf)) | (refine ⟨⟨by omega, by omega⟩, ?_⟩; (conv => whnf))))
      refine loop_slots [0, 3, 4, 5] (fun k vs F' => ∃ j : Nat, j + k = ds.length ∧ vs = [str (c :: l), .int .i64 (digFold (ds.take j)), .int .i64 0, .int .i64 ((0 + j : Nat) : Int)] ∧ (ds.take j).all isDig = true ∧ F' = F) ds.length ⟨0, by omega, rfl, rfl, rfl⟩ ?_
      rintro k vs F2 ρ ⟨j, hjk, rfl, hall, rfl⟩
      ((conv => whnf); repeat (first | (apply load_at; (conv => lhs; whnf); (with_reducible assumption); rfl; (conv => whnf)) | (apply load_at; (conv => lhs; rw [add_plain, add_plain]); (with_reducible assumption); rfl; (conv => whnf)) | (apply loads_at; (conv => lhs; whnf); (with_reducible assumption); rfl; (conv => whnf)) | (refine ⟨⟨by omega, by omega⟩, ?_⟩; (conv => whnf))))
      refine cond_split (fun h => ?_) (fun h => ?_)
      · have hj : j < ds.length := by
          have h : decide (((0 + j : Nat) : Int) < ((l.length + 1 : Nat) : Int)) = true := h
          have := of_decide_eq_true h
          omega
        have hws : IntKind.i64.wrap (((0 + j : Nat) : Int) + 1) = ((0 + (j + 1) : Nat) : Int) := by rw [wrap_eq (by omega) (by omega)]; omega
        ((conv => whnf); repeat (first | (apply load_at; (conv => lhs; whnf); (with_reducible assumption); rfl; (conv => whnf)) | (apply load_at; (conv => lhs; rw [add_plain, add_plain]); (with_reducible assumption); rfl; (conv => whnf)) | (apply loads_at; (conv => lhs; whnf); (with_reducible assumption); rfl; (conv => whnf)) | (refine ⟨⟨by omega, by omega⟩, ?_⟩; (conv => whnf))))
        intro u hu
        have hx := hgw j u hu
        have hst := all_take_dig hx hall
        have hfs := digFold_step hx
        have hul : u.toNat < 256 := u.toNat_lt
        have hdv : IntKind.i64.wrap (IntKind.i64.wrap (u.toNat : Int) - 48) = (u.toNat : Int) - 48 := by
          have h1 : IntKind.i64.wrap (u.toNat : Int) = (u.toNat : Int) := wrap_eq (by omega) (by omega)
          rw [h1]
          exact wrap_eq (by omega) (by omega)
        have hsplit : isDig u = (decide (48 ≤ u.toNat) && decide (u.toNat ≤ 57)) := rfl
        ((conv => whnf); repeat (first | (apply load_at; (conv => lhs; whnf); (with_reducible assumption); rfl; (conv => whnf)) | (apply load_at; (conv => lhs; rw [add_plain, add_plain]); (with_reducible assumption); rfl; (conv => whnf)) | (apply loads_at; (conv => lhs; whnf); (with_reducible assumption); rfl; (conv => whnf)) | (refine ⟨⟨by omega, by omega⟩, ?_⟩; (conv => whnf))))
        refine cond_split (fun h1 => ?_) (fun h1 => ?_)
        · have h1 : 48 ≤ u.toNat := by
            have h : (!decide (IntKind.i64.wrap (IntKind.i64.wrap (u.toNat : Int) - 48) < 0)) = true := h1
            rw [hdv] at h
            simp at h
            omega
          ((conv => whnf); repeat (first | (apply load_at; (conv => lhs; whnf); (with_reducible assumption); rfl; (conv => whnf)) | (apply load_at; (conv => lhs; rw [add_plain, add_plain]); (with_reducible assumption); rfl; (conv => whnf)) | (apply loads_at; (conv => lhs; whnf); (with_reducible assumption); rfl; (conv => whnf)) | (refine ⟨⟨by omega, by omega⟩, ?_⟩; (conv => whnf))))
          refine cond_split (fun h2 => ?_) (fun h2 => ?_)
          · have h2 : ¬ u.toNat ≤ 57 := by
              have h : decide (IntKind.i64.wrap (IntKind.i64.wrap (u.toNat : Int) - 48) > 9) = true := h2
              rw [hdv] at h
              have := of_decide_eq_true h
              omega
            have hno := hst.2 (by rw [hsplit, decide_eq_false h2, Bool.and_false])
            rw [hno, if_neg (by decide)] at hz
            ((conv => whnf); repeat (first | (apply load_at; (conv => lhs; whnf); (with_reducible assumption); rfl; (conv => whnf)) | (apply load_at; (conv => lhs; rw [add_plain, add_plain]); (with_reducible assumption); rfl; (conv => whnf)) | (apply loads_at; (conv => lhs; whnf); (with_reducible assumption); rfl; (conv => whnf)) | (refine ⟨⟨by omega, by omega⟩, ?_⟩; (conv => whnf))))
            exact ⟨by rw [hz]; rfl, rfl⟩
          · have h2 : u.toNat ≤ 57 := by
              have h : decide (IntKind.i64.wrap (IntKind.i64.wrap (u.toNat : Int) - 48) > 9) = false := h2
              rw [hdv] at h
              have := of_decide_eq_false h
              omega
            ((conv => whnf); repeat (first | (apply load_at; (conv => lhs; whnf); (with_reducible assumption); rfl; (conv => whnf)) | (apply load_at; (conv => lhs; rw [add_plain, add_plain]); (with_reducible assumption); rfl; (conv => whnf)) | (apply loads_at; (conv => lhs; whnf); (with_reducible assumption); rfl; (conv => whnf)) | (refine ⟨⟨by omega, by omega⟩, ?_⟩; (conv => whnf))))
            refine ⟨k - 1, by omega, j + 1, by omega, ?_, hst.1 (by rw [hsplit, decide_eq_true h1, decide_eq_true h2]; rfl), rfl⟩
            have hv : IntKind.i64.wrap (IntKind.i64.wrap (digFold (ds.take j) * 10) - IntKind.i64.wrap (IntKind.i64.wrap (u.toNat : Int) - 48)) = digFold (ds.take (j + 1)) := by
              rw [hdv, hfs, Int.mul_comm]
              rfl
            rw [← hv, ← hws]
            rfl
        · have h1 : ¬ 48 ≤ u.toNat := by
            have h : (!decide (IntKind.i64.wrap (IntKind.i64.wrap (u.toNat : Int) - 48) < 0)) = false := h1
            rw [hdv] at h
            simp at h
            omega
          have hno := hst.2 (by rw [hsplit, decide_eq_false h1]; rfl)
          rw [hno, if_neg (by decide)] at hz
          ((conv => whnf); repeat (first | (apply load_at; (conv => lhs; whnf); (with_reducible assumption); rfl; (conv => whnf)) | (apply load_at; (conv => lhs; rw [add_plain, add_plain]); (with_reducible assumption); rfl; (conv => whnf)) | (apply loads_at; (conv => lhs; whnf); (with_reducible assumption); rfl; (conv => whnf)) | (refine ⟨⟨by omega, by omega⟩, ?_⟩; (conv => whnf))))
          exact ⟨by rw [hz]; rfl, rfl⟩
      · have hj : j = ds.length := by
          have h : decide (((0 + j : Nat) : Int) < ((l.length + 1 : Nat) : Int)) = false := h
          have := of_decide_eq_false h
          omega
        rw [hj, List.take_length] at hall
        rw [hall, if_pos rfl, if_neg (by decide)] at hz
        ((conv => whnf); repeat (first | (apply load_at; (conv => lhs; whnf); (with_reducible assumption); rfl; (conv => whnf)) | (apply load_at; (conv => lhs; rw [add_plain, add_plain]); (with_reducible assumption); rfl; (conv => whnf)) | (apply loads_at; (conv => lhs; whnf); (with_reducible assumption); rfl; (conv => whnf)) | (refine ⟨⟨by omega, by omega⟩, ?_⟩; (conv => whnf))))
        refine ⟨?_, rfl⟩
        rw [hz]
        have htl : ds.take j = ds := by rw [hj, List.take_length]
        show Value.int .i64 (IntKind.i64.wrap (0 - digFold (ds.take j))) = _
        rw [htl]
end Go.Proofs.Ytbgijjoemnfnmaa.Al
/- exchequerref48.words. -/
namespace Go.Proofs.Ytbgijjoemnfnmaa.Al
open Go Go.Al Go.Proofs Go.RowKit
set_option maxHeartbeats 8000000
set_option maxRecDepth 100000
set_option linter.unusedVariables false
set_option linter.unusedSimpArgs false
def splitL : List UInt8 → List (List UInt8)
  | [] => [[]]
  | b :: l => if b = 32 then [] :: splitL l else (match splitL l with | [] => [[b]] | w :: ws => (b :: w) :: ws)
theorem splitL_cut : ∀ l : List UInt8, splitL l = if (cutL l).2.2 = true then (cutL l).1 :: splitL (cutL l).2.1 else [(cutL l).1]
  | [] => rfl
  | b :: l => by
    have ih := splitL_cut l
    rw [cutL_cons]
    show (if b = 32 then [] :: splitL l else (match splitL l with | [] => [[b]] | w :: ws => (b :: w) :: ws)) = _
    by_cases hb : b = 32
    · rw [if_pos hb, if_pos hb]
      rfl
    · rw [if_neg hb, if_neg hb, ih]
      by_cases hc : (cutL l).2.2 = true
      · rw [if_pos hc]
        show _ = if (cutL l).2.2 = true then _ else _
        rw [if_pos hc]
      · rw [if_neg hc]
        show _ = if (cutL l).2.2 = true then _ else _
        rw [if_neg hc]
theorem cutL_less (l : List UInt8) : (cutL l).1.length ≤ l.length ∧ (cutL l).2.1.length ≤ l.length ∧ ((cutL l).2.2 = true → (cutL l).2.1.length < l.length) := by
  rcases cutL_idx l with ⟨_, h⟩ | ⟨i, _, hi, h⟩
  · rw [h]
    exact ⟨Nat.le_refl _, Nat.zero_le _, fun e => by cases e⟩
  · rw [h]
    dsimp only
    rw [List.length_take, List.length_drop]
    exact ⟨by omega, by omega, fun _ => by omega⟩
theorem rwordsOf (l : List UInt8) (hl : l.length ≤ 1000000) (F : Heap) : FnK Try.prog 38 #[str l] F (fun v F' => ∃ A c, v = .slice A (splitL l).length c ∧ RowAt F' A (txV (splitL l)) ∧ Ext F F') := by
  obtain ⟨res, hres⟩ : ∃ r, r = splitL l := ⟨_, rfl⟩
  rw [← hres]
  (refine fn_walk tab_ok Try.func38 rfl rfl rfl rfl ?_; (conv => whnf))
  refine loop_slots [0, 3] (fun k vs F' => ∃ (r : List UInt8) (S : Value) (done : List (List UInt8)), vs = [str r, S] ∧ r.length ≤ k ∧ done.length + k ≤ 1000000 ∧ r.length ≤ 1000000 ∧ res = done ++ splitL r ∧ Mine F F' S 9 1 done.length (txV done)) l.length ⟨l, _, [], rfl, Nat.le_refl _, by simp; exact hl, hl, hres, Mine.nil _ _ _ _ (Ext.refl F)⟩ ?_
  rintro k vs F2 ρ ⟨r, S, done, rfl, hrk, hdk, hrl, hrs, hM⟩
  have hc := rcut r hrl F2
  have hsp := splitL_cut r
  have hle := cutL_less r
  generalize cutL r = p at hc hsp hle
  obtain ⟨w, rest, more⟩ := p
  replace hc : FnK Try.prog 21 #[str r] F2 (fun v F' => v = .tuple #[str w, str rest, .bool more] ∧ F' = F2) := hc
  ((conv => whnf); repeat (first | (apply load_at; (conv => lhs; whnf); (with_reducible assumption); rfl; (conv => whnf)) | (apply load_at; (conv => lhs; rw [add_plain, add_plain]); (with_reducible assumption); rfl; (conv => whnf)) | (apply loads_at; (conv => lhs; whnf); (with_reducible assumption); rfl; (conv => whnf)) | (refine ⟨⟨by omega, by omega⟩, ?_⟩; (conv => whnf))))
  refine call_of hc ?_
  rintro v F3 ⟨rfl, rfl⟩
  ((conv => whnf); repeat (first | (apply load_at; (conv => lhs; whnf); (with_reducible assumption); rfl; (conv => whnf)) | (apply load_at; (conv => lhs; rw [add_plain, add_plain]); (with_reducible assumption); rfl; (conv => whnf)) | (apply loads_at; (conv => lhs; whnf); (with_reducible assumption); rfl; (conv => whnf)) | (refine ⟨⟨by omega, by omega⟩, ?_⟩; (conv => whnf))))
  refine new_step (.cells #[str w] 9) rfl fun g h0_g => ?_
  have hE_g := Ext.new h0_g (.cells #[str w] 9)
  have hB_g := Heap.put_same F3 g (.cells #[str w] 9)
  generalize F3.put g _ = F4 at hE_g hB_g ⊢
  have hM4 := hM.mono hE_g
  ((conv => whnf); repeat (first | (apply load_at; (conv => lhs; whnf); (with_reducible assumption); rfl; (conv => whnf)) | (apply load_at; (conv => lhs; rw [add_plain, add_plain]); (with_reducible assumption); rfl; (conv => whnf)) | (apply loads_at; (conv => lhs; whnf); (with_reducible assumption); rfl; (conv => whnf)) | (refine ⟨⟨by omega, by omega⟩, ?_⟩; (conv => whnf))))
  refine append_mine tab_ok rfl rfl rfl rfl rfl ⟨_, rfl, fun k h => by cases h⟩ ⟨_, rfl, rfl⟩ (by decide) hM4 (m := 1) (ys := [str w]) (y := .slice (some ⟨g, 0, none⟩) 1 1) ⟨rfl, .inl ⟨_, _, rfl, row_blk hB_g⟩⟩ (one_str _) (by show 2 * (done.length + 1) * 16 ≤ _; omega) fun S5 F5 hM5 hk5 => ?_
  have hM5 : Mine F F5 S5 9 1 (done ++ [w]).length (txV (done ++ [w])) := by rw [List.length_append, List.length_singleton, txV_app]; exact hM5
  cases more with
  | true =>
    have hsp : splitL r = w :: splitL rest := hsp
    have hlt : rest.length < r.length := hle.2.2 rfl
    ((conv => whnf); repeat (first | (apply load_at; (conv => lhs; whnf); (with_reducible assumption); rfl; (conv => whnf)) | (apply load_at; (conv => lhs; rw [add_plain, add_plain]); (with_reducible assumption); rfl; (conv => whnf)) | (apply loads_at; (conv => lhs; whnf); (with_reducible assumption); rfl; (conv => whnf)) | (refine ⟨⟨by omega, by omega⟩, ?_⟩; (conv => whnf))))
    refine ⟨k - 1, by omega, rest, S5, done ++ [w], rfl, by omega, by rw [List.length_append, List.length_singleton]; omega, by omega, ?_, hM5⟩
    rw [hrs, hsp, List.append_assoc]
    rfl
  | false =>
    have hsp : splitL r = [w] := hsp
    rw [hsp] at hrs
    rw [← hrs] at hM5
    obtain ⟨A, c, rfl, _, hr⟩ := hM5.own.row
    ((conv => whnf); repeat (first | (apply load_at; (conv => lhs; whnf); (with_reducible assumption); rfl; (conv => whnf)) | (apply load_at; (conv => lhs; rw [add_plain, add_plain]); (with_reducible assumption); rfl; (conv => whnf)) | (apply loads_at; (conv => lhs; whnf); (with_reducible assumption); rfl; (conv => whnf)) | (refine ⟨⟨by omega, by omega⟩, ?_⟩; (conv => whnf))))
    exact ⟨A, c, rfl, hr, hM5.ext⟩
end Go.Proofs.Ytbgijjoemnfnmaa.Al
/- exchequerref48.lines. -/
namespace Go.Proofs.Ytbgijjoemnfnmaa.Al
open Go Go.Al Go.Proofs Go.RowKit
set_option maxHeartbeats 8000000
set_option maxRecDepth 100000
set_option linter.unusedVariables false
set_option linter.unusedSimpArgs false
def chunk3 : List (List UInt8) → List LD
  | a :: b :: c :: ws => ⟨rnumV a, rnumV b, 0, rnumV c⟩ :: chunk3 ws
  | _ => []
def chunk2 : List (List UInt8) → List LD
  | a :: b :: ws => ⟨0, 0, rnumV a, rnumV b⟩ :: chunk2 ws
  | _ => []
theorem chunk3_end (ws : List (List UInt8)) (h : ws.length < 3) : chunk3 ws = [] := by
  match ws, h with
  | [], _ => rfl
  | [_], _ => rfl
  | [_, _], _ => rfl
theorem chunk2_end (ws : List (List UInt8)) (h : ws.length < 2) : chunk2 ws = [] := by
  match ws, h with
  | [], _ => rfl
  | [_], _ => rfl
theorem chunk3_go (ws : List (List UInt8)) (i : Nat) (a b c : List UInt8) (ha : ws[i]? = some a) (hb : ws[i + 1]? = some b) (hc : ws[i + 2]? = some c) : chunk3 (ws.drop i) = ⟨rnumV a, rnumV b, 0, rnumV c⟩ :: chunk3 (ws.drop (i + 3)) := by
  obtain ⟨h1, e1⟩ := List.getElem?_eq_some_iff.1 ha
  obtain ⟨h2, e2⟩ := List.getElem?_eq_some_iff.1 hb
  obtain ⟨h3, e3⟩ := List.getElem?_eq_some_iff.1 hc
  rw [List.drop_eq_getElem_cons h1, List.drop_eq_getElem_cons h2, List.drop_eq_getElem_cons h3, e1, e2, e3]
  rfl
theorem chunk2_go (ws : List (List UInt8)) (i : Nat) (a b : List UInt8) (ha : ws[i]? = some a) (hb : ws[i + 1]? = some b) : chunk2 (ws.drop i) = ⟨0, 0, rnumV a, rnumV b⟩ :: chunk2 (ws.drop (i + 2)) := by
  obtain ⟨h1, e1⟩ := List.getElem?_eq_some_iff.1 ha
  obtain ⟨h2, e2⟩ := List.getElem?_eq_some_iff.1 hb
  rw [List.drop_eq_getElem_cons h1, List.drop_eq_getElem_cons h2, e1, e2]
  rfl
theorem rlines3 (ws : List (List UInt8)) (A : Option Addr) (c : Nat) (F : Heap) (hr : RowAt F A (txV ws)) (hw : ∀ w ∈ ws, w.length ≤ 1000000) (hl : ws.length ≤ 1000000) :
    FnK Try.prog 37 #[.slice A ws.length c, .int .i64 3] F (fun v F' => ∃ B cc, v = .slice B (chunk3 ws).length cc ∧ RowAt F' B (linesV (chunk3 ws)) ∧ (∀ a, B = some a → F a.block = none) ∧ Ext F F') := by
  obtain ⟨res, hres⟩ : ∃ r, r = chunk3 ws := ⟨_, rfl⟩
  rw [← hres]
  (refine fn_walk tab_ok Try.func37 rfl rfl rfl rfl ?_; (conv => whnf))
  refine loop_slots [0, 1, 5, 6] (fun k vs F' => ∃ (i : Nat) (S : Value) (done : List LD), i + k = ws.length ∧ vs = [.slice A ws.length c, .int .i64 3, S, .int .i64 (i : Int)] ∧ done.length ≤ i ∧ res = done ++ chunk3 (ws.drop i) ∧ Mine F F' S 41 4 done.length (linesV done)) ws.length ⟨0, _, [], by omega, rfl, Nat.le_refl _, hres, Mine.nil _ _ _ _ (Ext.refl F)⟩ ?_
  rintro k vs F2 ρ ⟨i, S, done, hik, rfl, hdi, hrs, hM⟩
  have hi3 : IntKind.i64.wrap ((i : Int) + 3) = ((i + 3 : Nat) : Int) := by rw [wrap_eq (by omega) (by omega)]; omega
  ((conv => whnf); repeat (first | (apply load_at; (conv => lhs; whnf); (with_reducible assumption); rfl; (conv => whnf)) | (apply load_at; (conv => lhs; rw [add_plain, add_plain]); (with_reducible assumption); rfl; (conv => whnf)) | (apply loads_at; (conv => lhs; whnf); (with_reducible assumption); rfl; (conv => whnf)) | (refine ⟨⟨by omega, by omega⟩, ?_⟩; (conv => whnf))))
  refine cond_split (fun h => ?_) (fun h => ?_)
  · have hi : i + 3 ≤ ws.length := by
      have h : decide (IntKind.i64.wrap ((i : Int) + 3) ≤ (ws.length : Int)) = true := h
      rw [hi3] at h
      have := of_decide_eq_true h
      omega
    have hx0 : ws[i]? = some (ws[i]'(by omega)) := List.getElem?_eq_getElem (by omega)
    have hx1 : ws[i + 1]? = some (ws[i + 1]'(by omega)) := List.getElem?_eq_getElem (by omega)
    have hx2 : ws[i + 2]? = some (ws[i + 2]'(by omega)) := List.getElem?_eq_getElem (by omega)
    have hwa := hw _ (List.mem_of_getElem? hx0)
    have hwb := hw _ (List.mem_of_getElem? hx1)
    have hwd := hw _ (List.mem_of_getElem? hx2)
    generalize ws[i]'(by omega) = a at hx0 hwa
    generalize ws[i + 1]'(by omega) = b at hx1 hwb
    generalize ws[i + 2]'(by omega) = d at hx2 hwd
    have hgo := chunk3_go ws i a b d hx0 hx1 hx2
    obtain ⟨ad, rfl⟩ := hr.some (by rw [txV_len]; omega)
    have hrow := hr.mono hM.ext
    have hcl := tx_cell hrow hx2
    have hla : IntKind.i64.wrap (IntKind.i64.wrap ((i : Int) + 3) - 1) = ((i + 2 : Nat) : Int) := by rw [hi3, wrap_eq (by omega) (by omega)]; omega
    rw [← hla] at hcl
    have na := fun F => number a hwa F
    have nb := fun F => number b hwb F
    have nd := fun F => number d hwd F
    generalize rnumV a = va at na hgo
    generalize rnumV b = vb at nb hgo
    generalize rnumV d = vd at nd hgo
    rw [hgo] at hrs
    ((conv => whnf); repeat (first | (apply load_at; (conv => lhs; whnf); (with_reducible assumption); rfl; (conv => whnf)) | (apply load_at; (conv => lhs; rw [add_plain, add_plain]); (with_reducible assumption); rfl; (conv => whnf)) | (apply loads_at; (conv => lhs; whnf); (with_reducible assumption); rfl; (conv => whnf)) | (refine ⟨⟨by omega, by omega⟩, ?_⟩; (conv => whnf))))
    refine load_step hcl ?_
    ((conv => whnf); repeat (first | (apply load_at; (conv => lhs; whnf); (with_reducible assumption); rfl; (conv => whnf)) | (apply load_at; (conv => lhs; rw [add_plain, add_plain]); (with_reducible assumption); rfl; (conv => whnf)) | (apply loads_at; (conv => lhs; whnf); (with_reducible assumption); rfl; (conv => whnf)) | (refine ⟨⟨by omega, by omega⟩, ?_⟩; (conv => whnf))))
    refine call_of (nd F2) ?_
    rintro v F3 ⟨rfl, rfl⟩
    ((conv => whnf); repeat (first | (apply load_at; (conv => lhs; whnf); (with_reducible assumption); rfl; (conv => whnf)) | (apply load_at; (conv => lhs; rw [add_plain, add_plain]); (with_reducible assumption); rfl; (conv => whnf)) | (apply loads_at; (conv => lhs; whnf); (with_reducible assumption); rfl; (conv => whnf)) | (refine ⟨⟨by omega, by omega⟩, ?_⟩; (conv => whnf))))
    refine new_step (lineO 0 0 0 0) rfl fun x h0_x => ?_
    have hE_x := Ext.new h0_x (lineO 0 0 0 0)
    have hB_x := Heap.put_same F3 x (lineO 0 0 0 0)
    generalize F3.put x _ = F4 at hE_x hB_x ⊢
    ((conv => whnf); repeat (first | (apply load_at; (conv => lhs; whnf); (with_reducible assumption); rfl; (conv => whnf)) | (apply load_at; (conv => lhs; rw [add_plain, add_plain]); (with_reducible assumption); rfl; (conv => whnf)) | (apply loads_at; (conv => lhs; whnf); (with_reducible assumption); rfl; (conv => whnf)) | (refine ⟨⟨by omega, by omega⟩, ?_⟩; (conv => whnf))))
    refine store_step x 0 _ #[.int .i64 0, .int .i64 0, .int .i64 0, .int .i64 vd] rfl hB_x rfl rfl (.inl (Nat.le_refl 0)) (one_line ⟨0, 0, 0, vd⟩) ?_
    have hB5 := Heap.put_same F4 x (lineO 0 0 0 vd)
    have hE5 : Ext F3 (F4.put x (lineO 0 0 0 vd)) := hE_x.put h0_x _
    generalize F4.put x _ = F5 at hB5 hE5 ⊢
    have hM5 := hM.mono hE5
    have h0x : F x = none := hM.ext.none h0_x
    have hSx : blk S ≠ some x := fun e => hM.own.there e h0_x
    have hc0 := tx_cell (hrow.mono hE5) hx0
    have hc1 := tx_cell (hrow.mono hE5) hx1
    have hws1 : IntKind.i64.wrap ((i : Int) + 1) = ((i + 1 : Nat) : Int) := wrap_succ (by omega)
    rw [← hws1] at hc1
    ((conv => whnf); repeat (first | (apply load_at; (conv => lhs; whnf); (with_reducible assumption); rfl; (conv => whnf)) | (apply load_at; (conv => lhs; rw [add_plain, add_plain]); (with_reducible assumption); rfl; (conv => whnf)) | (apply loads_at; (conv => lhs; whnf); (with_reducible assumption); rfl; (conv => whnf)) | (refine ⟨⟨by omega, by omega⟩, ?_⟩; (conv => whnf))))
    refine draw_cut (fun env' F' => env' 0 = .slice (some ad) ws.length c ∧ env' 1 = .int .i64 3 ∧ env' 5 = S ∧ env' 6 = .int .i64 (i : Int) ∧ env' 7 = .pointer (some ⟨x, 0, none⟩) ∧ F' = (F5.put x (lineO va 0 0 vd)).put x (lineO va vb 0 vd)) (fun K hK => ?_) ?_
    · refine draw_tree tab_ok (by kernel_rfl) [3, 9, 1000] (DT.row [0, 1, 2, 3, 5, 6, 7, 8, 9, 4, 11, 10, 12, 13, 14] .nil) (by kernel_rfl) ?_
      ((conv => whnf); repeat (first | (apply load_at; (conv => lhs; whnf); (with_reducible assumption); rfl; (conv => whnf)) | (apply load_at; (conv => lhs; rw [add_plain, add_plain]); (with_reducible assumption); rfl; (conv => whnf)) | (apply loads_at; (conv => lhs; whnf); (with_reducible assumption); rfl; (conv => whnf)) | (refine ⟨⟨by omega, by omega⟩, ?_⟩; (conv => whnf))))
      refine load_step hc0 ?_
      ((conv => whnf); repeat (first | (apply load_at; (conv => lhs; whnf); (with_reducible assumption); rfl; (conv => whnf)) | (apply load_at; (conv => lhs; rw [add_plain, add_plain]); (with_reducible assumption); rfl; (conv => whnf)) | (apply loads_at; (conv => lhs; whnf); (with_reducible assumption); rfl; (conv => whnf)) | (refine ⟨⟨by omega, by omega⟩, ?_⟩; (conv => whnf))))
      refine load_step hc1 ?_
      ((conv => whnf); repeat (first | (apply load_at; (conv => lhs; whnf); (with_reducible assumption); rfl; (conv => whnf)) | (apply load_at; (conv => lhs; rw [add_plain, add_plain]); (with_reducible assumption); rfl; (conv => whnf)) | (apply loads_at; (conv => lhs; whnf); (with_reducible assumption); rfl; (conv => whnf)) | (refine ⟨⟨by omega, by omega⟩, ?_⟩; (conv => whnf))))
      refine call_of (na F5) ?_
      rintro v F6 ⟨rfl, rfl⟩
      refine ⟨Ext.refl _, ?_⟩
      ((conv => whnf); repeat (first | (apply load_at; (conv => lhs; whnf); (with_reducible assumption); rfl; (conv => whnf)) | (apply load_at; (conv => lhs; rw [add_plain, add_plain]); (with_reducible assumption); rfl; (conv => whnf)) | (apply loads_at; (conv => lhs; whnf); (with_reducible assumption); rfl; (conv => whnf)) | (refine ⟨⟨by omega, by omega⟩, ?_⟩; (conv => whnf))))
      refine call_of (nb F6) ?_
      rintro v F7 ⟨rfl, rfl⟩
      ((conv => whnf); repeat (first | (apply load_at; (conv => lhs; whnf); (with_reducible assumption); rfl; (conv => whnf)) | (apply load_at; (conv => lhs; rw [add_plain, add_plain]); (with_reducible assumption); rfl; (conv => whnf)) | (apply loads_at; (conv => lhs; whnf); (with_reducible assumption); rfl; (conv => whnf)) | (refine ⟨⟨by omega, by omega⟩, ?_⟩; (conv => whnf))))
      refine store_step x 0 _ #[.int .i64 va, .int .i64 0, .int .i64 0, .int .i64 vd] rfl hB5 rfl rfl (.inl (Nat.le_refl 0)) (one_int _ _) ?_
      ((conv => whnf); repeat (first | (apply load_at; (conv => lhs; whnf); (with_reducible assumption); rfl; (conv => whnf)) | (apply load_at; (conv => lhs; rw [add_plain, add_plain]); (with_reducible assumption); rfl; (conv => whnf)) | (apply loads_at; (conv => lhs; whnf); (with_reducible assumption); rfl; (conv => whnf)) | (refine ⟨⟨by omega, by omega⟩, ?_⟩; (conv => whnf))))
      refine store_step x 1 _ #[.int .i64 va, .int .i64 vb, .int .i64 0, .int .i64 vd] rfl (Heap.put_same _ _ _) rfl rfl (.inl (Nat.le_refl 0)) (one_int _ _) ?_
      ((conv => whnf); repeat (first | (apply load_at; (conv => lhs; whnf); (with_reducible assumption); rfl; (conv => whnf)) | (apply load_at; (conv => lhs; rw [add_plain, add_plain]); (with_reducible assumption); rfl; (conv => whnf)) | (apply loads_at; (conv => lhs; whnf); (with_reducible assumption); rfl; (conv => whnf)) | (refine ⟨⟨by omega, by omega⟩, ?_⟩; (conv => whnf))))
      refine hK _ _ ?_
      exact ⟨rfl, rfl, rfl, rfl, rfl, rfl⟩
    rintro env' F6 ⟨q0, q1, q5, q6, q7, rfl⟩
    refine short [0, 1, 5, 6, 7] [.slice (some ad) ws.length c, .int .i64 3, S, .int .i64 (i : Int), .pointer (some ⟨x, 0, none⟩)] (by simp only [List.map_cons, List.map_nil, q0, q1, q5, q6, q7]) fun ρ => ?_
    have hB7 := Heap.put_same (F5.put x (lineO va 0 0 vd)) x (lineO va vb 0 vd)
    have hM7 := (hM5.put h0x hSx (lineO va 0 0 vd)).put h0x hSx (lineO va vb 0 vd)
    generalize (F5.put x (lineO va 0 0 vd)).put x (lineO va vb 0 vd) = F7 at hB7 hM7 ⊢
    ((conv => whnf); repeat (first | (apply load_at; (conv => lhs; whnf); (with_reducible assumption); rfl; (conv => whnf)) | (apply load_at; (conv => lhs; rw [add_plain, add_plain]); (with_reducible assumption); rfl; (conv => whnf)) | (apply loads_at; (conv => lhs; whnf); (with_reducible assumption); rfl; (conv => whnf)) | (refine ⟨⟨by omega, by omega⟩, ?_⟩; (conv => whnf))))
    refine new_step (lineO va vb 0 vd) rfl fun z h0_z => ?_
    have hE_z := Ext.new h0_z (lineO va vb 0 vd)
    have hB_z := Heap.put_same F7 z (lineO va vb 0 vd)
    generalize F7.put z _ = F8 at hE_z hB_z ⊢
    have hM8 := hM7.mono hE_z
    ((conv => whnf); repeat (first | (apply load_at; (conv => lhs; whnf); (with_reducible assumption); rfl; (conv => whnf)) | (apply load_at; (conv => lhs; rw [add_plain, add_plain]); (with_reducible assumption); rfl; (conv => whnf)) | (apply loads_at; (conv => lhs; whnf); (with_reducible assumption); rfl; (conv => whnf)) | (refine ⟨⟨by omega, by omega⟩, ?_⟩; (conv => whnf))))
    refine append_mine tab_ok rfl rfl rfl rfl rfl ⟨_, rfl, fun k h => by cases h⟩ ⟨_, rfl, rfl⟩ (by decide) hM8 (m := 1) (ys := lineV ⟨va, vb, 0, vd⟩) (y := .slice (some ⟨z, 0, none⟩) 1 1) ⟨rfl, .inl ⟨_, _, rfl, row_blk hB_z⟩⟩ (one_line _) (by show 2 * (done.length + 1) * 32 ≤ _; omega) fun S9 F9 hM9 hk9 => ?_
    ((conv => whnf); repeat (first | (apply load_at; (conv => lhs; whnf); (with_reducible assumption); rfl; (conv => whnf)) | (apply load_at; (conv => lhs; rw [add_plain, add_plain]); (with_reducible assumption); rfl; (conv => whnf)) | (apply loads_at; (conv => lhs; whnf); (with_reducible assumption); rfl; (conv => whnf)) | (refine ⟨⟨by omega, by omega⟩, ?_⟩; (conv => whnf))))
    refine ⟨k - 3, by omega, i + 3, S9, done ++ [⟨va, vb, 0, vd⟩], by omega, ?_, by rw [List.length_append, List.length_singleton]; omega, ?_, ?_⟩
    · rw [← hi3]
      rfl
    · rw [hrs, List.append_assoc]
      rfl
    · rw [linesV_app, List.length_append, List.length_singleton]
      exact hM9
  · have hi : ¬ i + 3 ≤ ws.length := by
      have h : decide (IntKind.i64.wrap ((i : Int) + 3) ≤ (ws.length : Int)) = false := h
      rw [hi3] at h
      have := of_decide_eq_false h
      omega
    rw [chunk3_end (ws.drop i) (by rw [List.length_drop]; omega), List.append_nil] at hrs
    subst hrs
    obtain ⟨B, cc, rfl, _, hrB⟩ := hM.own.row
    ((conv => whnf); repeat (first | (apply load_at; (conv => lhs; whnf); (with_reducible assumption); rfl; (conv => whnf)) | (apply load_at; (conv => lhs; rw [add_plain, add_plain]); (with_reducible assumption); rfl; (conv => whnf)) | (apply loads_at; (conv => lhs; whnf); (with_reducible assumption); rfl; (conv => whnf)) | (refine ⟨⟨by omega, by omega⟩, ?_⟩; (conv => whnf))))
    exact ⟨B, cc, rfl, hrB, fun a ha => hM.fresh _ (by rw [ha]; rfl), hM.ext⟩
theorem rlines2 (ws : List (List UInt8)) (A : Option Addr) (c : Nat) (F : Heap) (hr : RowAt F A (txV ws)) (hw : ∀ w ∈ ws, w.length ≤ 1000000) (hl : ws.length ≤ 1000000) :
    FnK Try.prog 37 #[.slice A ws.length c, .int .i64 2] F (fun v F' => ∃ B cc, v = .slice B (chunk2 ws).length cc ∧ RowAt F' B (linesV (chunk2 ws)) ∧ (∀ a, B = some a → F a.block = none) ∧ Ext F F') := by
  obtain ⟨res, hres⟩ : ∃ r, r = chunk2 ws := ⟨_, rfl⟩
  rw [← hres]
  (refine fn_walk tab_ok Try.func37 rfl rfl rfl rfl ?_; (conv => whnf))
  refine loop_slots [0, 1, 5, 6] (fun k vs F' => ∃ (i : Nat) (S : Value) (done : List LD), i + k = ws.length ∧ vs = [.slice A ws.length c, .int .i64 2, S, .int .i64 (i : Int)] ∧ done.length ≤ i ∧ res = done ++ chunk2 (ws.drop i) ∧ Mine F F' S 41 4 done.length (linesV done)) ws.length ⟨0, _, [], by omega, rfl, Nat.le_refl _, hres, Mine.nil _ _ _ _ (Ext.refl F)⟩ ?_
  rintro k vs F2 ρ ⟨i, S, done, hik, rfl, hdi, hrs, hM⟩
  have hi2 : IntKind.i64.wrap ((i : Int) + 2) = ((i + 2 : Nat) : Int) := by rw [wrap_eq (by omega) (by omega)]; omega
  ((conv => whnf); repeat (first | (apply load_at; (conv => lhs; whnf); (with_reducible assumption); rfl; (conv => whnf)) | (apply load_at; (conv => lhs; rw [add_plain, add_plain]); (with_reducible assumption); rfl; (conv => whnf)) | (apply loads_at; (conv => lhs; whnf); (with_reducible assumption); rfl; (conv => whnf)) | (refine ⟨⟨by omega, by omega⟩, ?_⟩; (conv => whnf))))
  refine cond_split (fun h => ?_) (fun h => ?_)
  · have hi : i + 2 ≤ ws.length := by
      have h : decide (IntKind.i64.wrap ((i : Int) + 2) ≤ (ws.length : Int)) = true := h
      rw [hi2] at h
      have := of_decide_eq_true h
      omega
    have hx0 : ws[i]? = some (ws[i]'(by omega)) := List.getElem?_eq_getElem (by omega)
    have hx1 : ws[i + 1]? = some (ws[i + 1]'(by omega)) := List.getElem?_eq_getElem (by omega)
    have hwa := hw _ (List.mem_of_getElem? hx0)
    have hwb := hw _ (List.mem_of_getElem? hx1)
    generalize ws[i]'(by omega) = a at hx0 hwa
    generalize ws[i + 1]'(by omega) = b at hx1 hwb
    have hgo := chunk2_go ws i a b hx0 hx1
    obtain ⟨ad, rfl⟩ := hr.some (by rw [txV_len]; omega)
    have hrow := hr.mono hM.ext
    have hcl := tx_cell hrow hx1
    have hla : IntKind.i64.wrap (IntKind.i64.wrap ((i : Int) + 2) - 1) = ((i + 1 : Nat) : Int) := by rw [hi2, wrap_eq (by omega) (by omega)]; omega
    rw [← hla] at hcl
    have na := fun F => number a hwa F
    have nb := fun F => number b hwb F
    generalize rnumV a = va at na hgo
    generalize rnumV b = vb at nb hgo
    rw [hgo] at hrs
    ((conv => whnf); repeat (first | (apply load_at; (conv => lhs; whnf); (with_reducible assumption); rfl; (conv => whnf)) | (apply load_at; (conv => lhs; rw [add_plain, add_plain]); (with_reducible assumption); rfl; (conv => whnf)) | (apply loads_at; (conv => lhs; whnf); (with_reducible assumption); rfl; (conv => whnf)) | (refine ⟨⟨by omega, by omega⟩, ?_⟩; (conv => whnf))))
    refine load_step hcl ?_
    ((conv => whnf); repeat (first | (apply load_at; (conv => lhs; whnf); (with_reducible assumption); rfl; (conv => whnf)) | (apply load_at; (conv => lhs; rw [add_plain, add_plain]); (with_reducible assumption); rfl; (conv => whnf)) | (apply loads_at; (conv => lhs; whnf); (with_reducible assumption); rfl; (conv => whnf)) | (refine ⟨⟨by omega, by omega⟩, ?_⟩; (conv => whnf))))
    refine call_of (nb F2) ?_
    rintro v F3 ⟨rfl, rfl⟩
    ((conv => whnf); repeat (first | (apply load_at; (conv => lhs; whnf); (with_reducible assumption); rfl; (conv => whnf)) | (apply load_at; (conv => lhs; rw [add_plain, add_plain]); (with_reducible assumption); rfl; (conv => whnf)) | (apply loads_at; (conv => lhs; whnf); (with_reducible assumption); rfl; (conv => whnf)) | (refine ⟨⟨by omega, by omega⟩, ?_⟩; (conv => whnf))))
    refine new_step (lineO 0 0 0 0) rfl fun x h0_x => ?_
    have hE_x := Ext.new h0_x (lineO 0 0 0 0)
    have hB_x := Heap.put_same F3 x (lineO 0 0 0 0)
    generalize F3.put x _ = F4 at hE_x hB_x ⊢
    ((conv => whnf); repeat (first | (apply load_at; (conv => lhs; whnf); (with_reducible assumption); rfl; (conv => whnf)) | (apply load_at; (conv => lhs; rw [add_plain, add_plain]); (with_reducible assumption); rfl; (conv => whnf)) | (apply loads_at; (conv => lhs; whnf); (with_reducible assumption); rfl; (conv => whnf)) | (refine ⟨⟨by omega, by omega⟩, ?_⟩; (conv => whnf))))
    refine store_step x 0 _ #[.int .i64 0, .int .i64 0, .int .i64 0, .int .i64 vb] rfl hB_x rfl rfl (.inl (Nat.le_refl 0)) (one_line ⟨0, 0, 0, vb⟩) ?_
    have hB5 := Heap.put_same F4 x (lineO 0 0 0 vb)
    have hE5 : Ext F3 (F4.put x (lineO 0 0 0 vb)) := hE_x.put h0_x _
    generalize F4.put x _ = F5 at hB5 hE5 ⊢
    have hM5 := hM.mono hE5
    have h0x : F x = none := hM.ext.none h0_x
    have hSx : blk S ≠ some x := fun e => hM.own.there e h0_x
    have hc0 := tx_cell (hrow.mono hE5) hx0
    ((conv => whnf); repeat (first | (apply load_at; (conv => lhs; whnf); (with_reducible assumption); rfl; (conv => whnf)) | (apply load_at; (conv => lhs; rw [add_plain, add_plain]); (with_reducible assumption); rfl; (conv => whnf)) | (apply loads_at; (conv => lhs; whnf); (with_reducible assumption); rfl; (conv => whnf)) | (refine ⟨⟨by omega, by omega⟩, ?_⟩; (conv => whnf))))
    refine load_step hc0 ?_
    ((conv => whnf); repeat (first | (apply load_at; (conv => lhs; whnf); (with_reducible assumption); rfl; (conv => whnf)) | (apply load_at; (conv => lhs; rw [add_plain, add_plain]); (with_reducible assumption); rfl; (conv => whnf)) | (apply loads_at; (conv => lhs; whnf); (with_reducible assumption); rfl; (conv => whnf)) | (refine ⟨⟨by omega, by omega⟩, ?_⟩; (conv => whnf))))
    refine call_of (na F5) ?_
    rintro v F6 ⟨rfl, rfl⟩
    ((conv => whnf); repeat (first | (apply load_at; (conv => lhs; whnf); (with_reducible assumption); rfl; (conv => whnf)) | (apply load_at; (conv => lhs; rw [add_plain, add_plain]); (with_reducible assumption); rfl; (conv => whnf)) | (apply loads_at; (conv => lhs; whnf); (with_reducible assumption); rfl; (conv => whnf)) | (refine ⟨⟨by omega, by omega⟩, ?_⟩; (conv => whnf))))
    refine store_step x 2 _ #[.int .i64 0, .int .i64 0, .int .i64 va, .int .i64 vb] rfl hB5 rfl rfl (.inl (Nat.le_refl 0)) (one_int _ _) ?_
    have hB7 := Heap.put_same F6 x (lineO 0 0 va vb)
    have hM7 := hM5.put h0x hSx (lineO 0 0 va vb)
    generalize F6.put x (lineO 0 0 va vb) = F7 at hB7 hM7 ⊢
    ((conv => whnf); repeat (first | (apply load_at; (conv => lhs; whnf); (with_reducible assumption); rfl; (conv => whnf)) | (apply load_at; (conv => lhs; rw [add_plain, add_plain]); (with_reducible assumption); rfl; (conv => whnf)) | (apply loads_at; (conv => lhs; whnf); (with_reducible assumption); rfl; (conv => whnf)) | (refine ⟨⟨by omega, by omega⟩, ?_⟩; (conv => whnf))))
    refine new_step (lineO 0 0 va vb) rfl fun z h0_z => ?_
    have hE_z := Ext.new h0_z (lineO 0 0 va vb)
    have hB_z := Heap.put_same F7 z (lineO 0 0 va vb)
    generalize F7.put z _ = F8 at hE_z hB_z ⊢
    have hM8 := hM7.mono hE_z
    ((conv => whnf); repeat (first | (apply load_at; (conv => lhs; whnf); (with_reducible assumption); rfl; (conv => whnf)) | (apply load_at; (conv => lhs; rw [add_plain, add_plain]); (with_reducible assumption); rfl; (conv => whnf)) | (apply loads_at; (conv => lhs; whnf); (with_reducible assumption); rfl; (conv => whnf)) | (refine ⟨⟨by omega, by omega⟩, ?_⟩; (conv => whnf))))
    refine append_mine tab_ok rfl rfl rfl rfl rfl ⟨_, rfl, fun k h => by cases h⟩ ⟨_, rfl, rfl⟩ (by decide) hM8 (m := 1) (ys := lineV ⟨0, 0, va, vb⟩) (y := .slice (some ⟨z, 0, none⟩) 1 1) ⟨rfl, .inl ⟨_, _, rfl, row_blk hB_z⟩⟩ (one_line _) (by show 2 * (done.length + 1) * 32 ≤ _; omega) fun S9 F9 hM9 hk9 => ?_
    ((conv => whnf); repeat (first | (apply load_at; (conv => lhs; whnf); (with_reducible assumption); rfl; (conv => whnf)) | (apply load_at; (conv => lhs; rw [add_plain, add_plain]); (with_reducible assumption); rfl; (conv => whnf)) | (apply loads_at; (conv => lhs; whnf); (with_reducible assumption); rfl; (conv => whnf)) | (refine ⟨⟨by omega, by omega⟩, ?_⟩; (conv => whnf))))
    refine ⟨k - 2, by omega, i + 2, S9, done ++ [⟨0, 0, va, vb⟩], by omega, ?_, by rw [List.length_append, List.length_singleton]; omega, ?_, ?_⟩
    · rw [← hi2]
      rfl
    · rw [hrs, List.append_assoc]
      rfl
    · rw [linesV_app, List.length_append, List.length_singleton]
      exact hM9
  · have hi : ¬ i + 2 ≤ ws.length := by
      have h : decide (IntKind.i64.wrap ((i : Int) + 2) ≤ (ws.length : Int)) = false := h
      rw [hi2] at h
      have := of_decide_eq_false h
      omega
    rw [chunk2_end (ws.drop i) (by rw [List.length_drop]; omega), List.append_nil] at hrs
    subst hrs
    obtain ⟨B, cc, rfl, _, hrB⟩ := hM.own.row
    ((conv => whnf); repeat (first | (apply load_at; (conv => lhs; whnf); (with_reducible assumption); rfl; (conv => whnf)) | (apply load_at; (conv => lhs; rw [add_plain, add_plain]); (with_reducible assumption); rfl; (conv => whnf)) | (apply loads_at; (conv => lhs; whnf); (with_reducible assumption); rfl; (conv => whnf)) | (refine ⟨⟨by omega, by omega⟩, ?_⟩; (conv => whnf))))
    exact ⟨B, cc, rfl, hrB, fun a ha => hM.fresh _ (by rw [ha]; rfl), hM.ext⟩
end Go.Proofs.Ytbgijjoemnfnmaa.Al
/- exchequerref48.read. -/
namespace Go.Proofs.Ytbgijjoemnfnmaa.Al
open Go Go.Al Go.Proofs Go.RowKit
set_option maxHeartbeats 8000000
set_option maxRecDepth 100000
set_option linter.unusedVariables false
set_option linter.unusedSimpArgs false
def rfieldsS : List Nat → CD → List UInt8 → Bool → CD
  | [], c, _, _ => c
  | f :: fs, c, s, more =>
    if more = false then c
    else if f = 10 then { c with nm := s }
    else if f = 11 then { c with ls := chunk3 (splitL s) }
    else if f = 12 then { c with ls := chunk2 (splitL s) }
    else if f = 9 then rfieldsS fs { c with ab := (cutL s).1 == yesL } (cutL s).2.1 (cutL s).2.2
    else rfieldsS fs (setF c f (rnumV (cutL s).1)) (cutL s).2.1 (cutL s).2.2
theorem splitL_len : ∀ l : List UInt8, (splitL l).length ≤ l.length + 1 ∧ ∀ w ∈ splitL l, w.length ≤ l.length
  | [] => ⟨by decide, fun w hw => by
      have : w = [] := by simpa [splitL] using hw
      rw [this]
      exact Nat.le_refl _⟩
  | b :: l => by
    obtain ⟨h1, h2⟩ := splitL_len l
    show (if b = 32 then [] :: splitL l else (match splitL l with | [] => [[b]] | w :: ws => (b :: w) :: ws)).length ≤ _ ∧ ∀ w ∈ (if b = 32 then [] :: splitL l else (match splitL l with | [] => [[b]] | w :: ws => (b :: w) :: ws)), w.length ≤ _
    by_cases hb : b = 32
    · rw [if_pos hb]
      refine ⟨by simp only [List.length_cons]; omega, fun w hw => ?_⟩
      rcases List.mem_cons.1 hw with rfl | hw
      · exact Nat.zero_le _
      · have := h2 w hw; simp only [List.length_cons]; omega
    · rw [if_neg hb]
      cases e : splitL l with
      | nil =>
        dsimp only
        refine ⟨by simp only [List.length_cons, List.length_nil]; omega, fun w hw => ?_⟩
        rw [List.mem_singleton.1 hw]
        simp only [List.length_cons, List.length_nil]
        omega
      | cons w ws =>
        rw [e] at h1 h2
        dsimp only
        simp only [List.length_cons] at h1 ⊢
        refine ⟨by omega, fun u hu => ?_⟩
        rcases List.mem_cons.1 hu with rfl | hu
        · have := h2 w (by simp)
          simp only [List.length_cons]
          omega
        · have := h2 u (by simp [hu])
          omega
theorem letC_u (f : Nat) : (letC f).toNat < 256 := (letC f).toNat_lt
/-- A command in a block, whose lines weren't there in F0. -/
def CmdFr (F0 F : Heap) (ms : List Nat) (p : Nat) (c : CD) : Prop := ∃ A cc, F p = some (cmdOf c A cc) ∧ RowAt F A (linesV c.ls) ∧ ∀ a, A = some a → a.block ∉ ms ∧ F0 a.block = none
theorem CmdFr.mono {F0 F G : Heap} {ms : List Nat} {p : Nat} {c : CD} (h : CmdFr F0 F ms p c) (hE : Ext F G) : CmdFr F0 G ms p c := by
  obtain ⟨A, cc, h1, h2, h3⟩ := h
  exact ⟨A, cc, hE _ _ h1, h2.mono hE, h3⟩
theorem read (k : Nat) (hk : 1 ≤ k ∧ k ≤ 20) (s : List UInt8) (hs : s.length ≤ 5000) (more : Bool) (F : Heap) :
    FnK Try.prog 22 #[.int .i64 (k : Int), str s, .bool more] F (fun v F' => (∃ A c, v = aggOf (rfieldsS (asksL k) (kindC k) s more) A c ∧ RowAt F' A (linesV (rfieldsS (asksL k) (kindC k) s more).ls) ∧ ∀ a, A = some a → F a.block = none) ∧ Ext F F') := by
  have hask := rasks k hk
  have hal := asksL_le k
  have han7 := asksL_len k
  obtain ⟨res, hres⟩ : ∃ r, r = rfieldsS (asksL k) (kindC k) s more := ⟨_, rfl⟩
  rw [← hres]
  generalize asksL k = fs at hask hal han7 hres
  have han : ((⟨(fs.map letC).toArray⟩ : ByteArray)).size = fs.length := by show (fs.map letC).toArray.size = _; simp
  (refine fn_walk tab_ok Try.func22 rfl rfl rfl rfl ?_; (conv => whnf))
  refine new_step (cmdO 0 0 0 0 0 0 0 0 0 0 false ⟨#[]⟩ (.slice none 0 0)) rfl fun z h0_z => ?_
  have hE_z := Ext.new h0_z (cmdO 0 0 0 0 0 0 0 0 0 0 false ⟨#[]⟩ (.slice none 0 0))
  have hB_z := Heap.put_same F z (cmdO 0 0 0 0 0 0 0 0 0 0 false ⟨#[]⟩ (.slice none 0 0))
  generalize F.put z _ = F1 at hE_z hB_z ⊢
  ((conv => whnf); repeat (first | (apply load_at; (conv => lhs; whnf); (with_reducible assumption); rfl; (conv => whnf)) | (apply load_at; (conv => lhs; rw [add_plain, add_plain]); (with_reducible assumption); rfl; (conv => whnf)) | (apply loads_at; (conv => lhs; whnf); (with_reducible assumption); rfl; (conv => whnf)) | (refine ⟨⟨by omega, by omega⟩, ?_⟩; (conv => whnf))))
  refine new_step (cmdO 0 0 0 0 0 0 0 0 0 0 false ⟨#[]⟩ (.slice none 0 0)) rfl fun p h0_p => ?_
  have hE_p := Ext.new h0_p (cmdO 0 0 0 0 0 0 0 0 0 0 false ⟨#[]⟩ (.slice none 0 0))
  have hB_p := Heap.put_same F1 p (cmdO 0 0 0 0 0 0 0 0 0 0 false ⟨#[]⟩ (.slice none 0 0))
  generalize F1.put p _ = F2 at hE_p hB_p ⊢
  have hpz : p ≠ z := fun e => by rw [e, hB_z] at h0_p; cases h0_p
  have hzp : z ≠ p := Ne.symm hpz
  ((conv => whnf); repeat (first | (apply load_at; (conv => lhs; whnf); (with_reducible assumption); rfl; (conv => whnf)) | (apply load_at; (conv => lhs; rw [add_plain, add_plain]); (with_reducible assumption); rfl; (conv => whnf)) | (apply loads_at; (conv => lhs; whnf); (with_reducible assumption); rfl; (conv => whnf)) | (refine ⟨⟨by omega, by omega⟩, ?_⟩; (conv => whnf))))
  refine store_step p 0 _ (cmdC k 0 0 0 0 0 0 0 0 0 false ⟨#[]⟩ (.slice none 0 0)) rfl hB_p rfl rfl (.inl (Nat.le_refl 0)) (kind_ones _) ?_
  have hp3 : CmdFr F (F2.put p (cmdO k 0 0 0 0 0 0 0 0 0 false ⟨#[]⟩ (.slice none 0 0))) [p, z] p (kindC k) := ⟨none, 0, Heap.put_same _ _ _, RowAt.nil _ _, fun a ha => by cases ha⟩
  have hz3 := (Heap.put_other F2 (cmdO k 0 0 0 0 0 0 0 0 0 false ⟨#[]⟩ (.slice none 0 0)) hzp).trans (hE_p _ _ hB_z)
  have hp0 : F p = none := hE_z.none h0_p
  have hE3 : Ext F (F2.put p (cmdO k 0 0 0 0 0 0 0 0 0 false ⟨#[]⟩ (.slice none 0 0))) := (hE_z.trans hE_p).put hp0 _
  generalize F2.put p _ = F3 at hp3 hz3 hE3 ⊢
  ((conv => whnf); repeat (first | (apply load_at; (conv => lhs; whnf); (with_reducible assumption); rfl; (conv => whnf)) | (apply load_at; (conv => lhs; rw [add_plain, add_plain]); (with_reducible assumption); rfl; (conv => whnf)) | (apply loads_at; (conv => lhs; whnf); (with_reducible assumption); rfl; (conv => whnf)) | (refine ⟨⟨by omega, by omega⟩, ?_⟩; (conv => whnf))))
  refine loop_slots [0, 1, 2, 6, 7, 8] (fun m vs F' => ∃ (j : Nat) (cd : CD) (t : List UInt8) (mr : Bool), j + m = fs.length ∧ vs = [.int .i64 (k : Int), str t, .bool mr, .pointer (some ⟨z, 0, none⟩), .pointer (some ⟨p, 0, none⟩), .int .i64 (j : Int)] ∧ t.length ≤ 5000 ∧ res = rfieldsS (fs.drop j) cd t mr ∧ CmdFr F F' [p, z] p cd ∧ F' z = some (cmdO 0 0 0 0 0 0 0 0 0 0 false ⟨#[]⟩ (.slice none 0 0)) ∧ Ext F F') fs.length ⟨0, kindC k, s, more, by omega, rfl, hs, hres, hp3, hz3, hE3⟩ ?_
  rintro m vs F4 ρ ⟨j, cd, t, mr, hjm, rfl, htl, hrs, hp4, hz4, hE4⟩
  have hput : ∀ (G : Heap) (o : Obj), Ext F G → Ext F (G.put z o) := fun G o h u v hu => by
    rw [Heap.put_other G o (fun e => by rw [e, h0_z] at hu; cases hu)]
    exact h u v hu
  have hputp : ∀ (G : Heap) (o : Obj), Ext F G → Ext F (G.put p o) := fun G o h u v hu => by
    rw [Heap.put_other G o (fun e => by rw [e, hp0] at hu; cases hu)]
    exact h u v hu
  have fin : ∀ (G : Heap) (c' : CD) (A : Option Addr) (cc : Nat), res = c' → RowAt G A (linesV c'.ls) → (∀ a, A = some a → a.block ∉ [p, z] ∧ F a.block = none) → Ext F G → (∃ A c, aggOf c' A c = aggOf c' A c ∧ True) → (∃ A' c, aggOf c' A cc = aggOf res A' c ∧ RowAt (G.put z (cmdOf c' A cc)) A' (linesV res.ls) ∧ ∀ a, A' = some a → F a.block = none) ∧ Ext F (G.put z (cmdOf c' A cc)) := by
    rintro G c' A cc rfl hr hA hE _
    refine ⟨⟨A, cc, rfl, rowAt_keepq hr (Keeps.put G z _) fun a ha e => (hA a ha).1 (by simp [e]), fun a ha => (hA a ha).2⟩, hput _ _ hE⟩
  ((conv => whnf); repeat (first | (apply load_at; (conv => lhs; whnf); (with_reducible assumption); rfl; (conv => whnf)) | (apply load_at; (conv => lhs; rw [add_plain, add_plain]); (with_reducible assumption); rfl; (conv => whnf)) | (apply loads_at; (conv => lhs; whnf); (with_reducible assumption); rfl; (conv => whnf)) | (refine ⟨⟨by omega, by omega⟩, ?_⟩; (conv => whnf))))
  refine call_of (hask F4) ?_
  rintro v F5 ⟨rfl, hE5⟩
  replace hp4 := hp4.mono hE5
  replace hz4 := hE5 _ _ hz4
  replace hE4 := hE4.trans hE5
  obtain ⟨A, cc, hp5, hr5, hA5⟩ := hp4
  obtain ⟨kk, y, x, f, o, n, pp, d, l, a, ab, nm, ls⟩ := cd
  replace hp5 : F5 p = some (cmdO kk y x f o n pp d l a ab ⟨nm.toArray⟩ (.slice A ls.length cc)) := hp5
  replace hr5 : RowAt F5 A (linesV ls) := hr5
  ((conv => whnf); repeat (first | (apply load_at; (conv => lhs; whnf); (with_reducible assumption); rfl; (conv => whnf)) | (apply load_at; (conv => lhs; rw [add_plain, add_plain]); (with_reducible assumption); rfl; (conv => whnf)) | (apply loads_at; (conv => lhs; whnf); (with_reducible assumption); rfl; (conv => whnf)) | (refine ⟨⟨by omega, by omega⟩, ?_⟩; (conv => whnf))))
  refine cond_split (fun hc => ?_) (fun hc => ?_)
  case refine_2 =>
    have hj : j = fs.length := by
      have h : decide ((j : Int) < (((⟨(fs.map letC).toArray⟩ : ByteArray).size : Nat) : Int)) = false := hc
      rw [han] at h
      have := of_decide_eq_false h
      omega
    rw [hj, List.drop_length] at hrs
    replace hrs : res = ⟨kk, y, x, f, o, n, pp, d, l, a, ab, nm, ls⟩ := hrs
    ((conv => whnf); repeat (first | (apply load_at; (conv => lhs; whnf); (with_reducible assumption); rfl; (conv => whnf)) | (apply load_at; (conv => lhs; rw [add_plain, add_plain]); (with_reducible assumption); rfl; (conv => whnf)) | (apply loads_at; (conv => lhs; whnf); (with_reducible assumption); rfl; (conv => whnf)) | (refine ⟨⟨by omega, by omega⟩, ?_⟩; (conv => whnf))))
    refine store_step z 0 _ (cmdC kk y x f o n pp d l a ab ⟨nm.toArray⟩ (.slice A ls.length cc)) rfl hz4 rfl rfl (.inl (Nat.le_refl 0)) (cmd_ones _ _ _ _ _ _ _ _ _ _ _ _ _ _ _) ?_
    have hzz := Heap.put_same F5 z (cmdO kk y x f o n pp d l a ab ⟨nm.toArray⟩ (.slice A ls.length cc))
    ((conv => whnf); repeat (first | (apply load_at; (conv => lhs; whnf); (with_reducible assumption); rfl; (conv => whnf)) | (apply load_at; (conv => lhs; rw [add_plain, add_plain]); (with_reducible assumption); rfl; (conv => whnf)) | (apply loads_at; (conv => lhs; whnf); (with_reducible assumption); rfl; (conv => whnf)) | (refine ⟨⟨by omega, by omega⟩, ?_⟩; (conv => whnf))))
    refine res_cells tab_ok rfl rfl hzz rfl ?_
    ((conv => whnf); repeat (first | (apply load_at; (conv => lhs; whnf); (with_reducible assumption); rfl; (conv => whnf)) | (apply load_at; (conv => lhs; rw [add_plain, add_plain]); (with_reducible assumption); rfl; (conv => whnf)) | (apply loads_at; (conv => lhs; whnf); (with_reducible assumption); rfl; (conv => whnf)) | (refine ⟨⟨by omega, by omega⟩, ?_⟩; (conv => whnf))))
    exact fin F5 ⟨kk, y, x, f, o, n, pp, d, l, a, ab, nm, ls⟩ A cc hrs hr5 hA5 hE4 ⟨none, 0, rfl, trivial⟩
  have hj : j < fs.length := by
    have h : decide ((j : Int) < (((⟨(fs.map letC).toArray⟩ : ByteArray).size : Nat) : Int)) = true := hc
    rw [han] at h
    have := of_decide_eq_true h
    omega
  have hdr : fs.drop j = fs[j] :: fs.drop (j + 1) := List.drop_eq_getElem_cons hj
  have hf12 := hal fs[j] (List.getElem_mem hj)
  have hget : ∀ b, (⟨(fs.map letC).toArray⟩ : ByteArray)[Int.toNat (j : Int)]? = some b → b = letC fs[j] := fun b h => by
    rw [Int.toNat_natCast, str_get, List.getElem?_map, List.getElem?_eq_getElem hj] at h
    exact (Option.some.inj h).symm
  rw [hdr] at hrs
  generalize fs[j] = g at hrs hf12 hget
  have hws : IntKind.i64.wrap ((j : Int) + 1) = ((j + 1 : Nat) : Int) := wrap_succ (by omega)
  cases mr with
  | false =>
    replace hrs : res = ⟨kk, y, x, f, o, n, pp, d, l, a, ab, nm, ls⟩ := hrs
    ((conv => whnf); repeat (first | (apply load_at; (conv => lhs; whnf); (with_reducible assumption); rfl; (conv => whnf)) | (apply load_at; (conv => lhs; rw [add_plain, add_plain]); (with_reducible assumption); rfl; (conv => whnf)) | (apply loads_at; (conv => lhs; whnf); (with_reducible assumption); rfl; (conv => whnf)) | (refine ⟨⟨by omega, by omega⟩, ?_⟩; (conv => whnf))))
    refine store_step z 0 _ (cmdC kk y x f o n pp d l a ab ⟨nm.toArray⟩ (.slice A ls.length cc)) rfl hz4 rfl rfl (.inl (Nat.le_refl 0)) (cmd_ones _ _ _ _ _ _ _ _ _ _ _ _ _ _ _) ?_
    have hzz := Heap.put_same F5 z (cmdO kk y x f o n pp d l a ab ⟨nm.toArray⟩ (.slice A ls.length cc))
    ((conv => whnf); repeat (first | (apply load_at; (conv => lhs; whnf); (with_reducible assumption); rfl; (conv => whnf)) | (apply load_at; (conv => lhs; rw [add_plain, add_plain]); (with_reducible assumption); rfl; (conv => whnf)) | (apply loads_at; (conv => lhs; whnf); (with_reducible assumption); rfl; (conv => whnf)) | (refine ⟨⟨by omega, by omega⟩, ?_⟩; (conv => whnf))))
    refine res_cells tab_ok rfl rfl hzz rfl ?_
    ((conv => whnf); repeat (first | (apply load_at; (conv => lhs; whnf); (with_reducible assumption); rfl; (conv => whnf)) | (apply load_at; (conv => lhs; rw [add_plain, add_plain]); (with_reducible assumption); rfl; (conv => whnf)) | (apply loads_at; (conv => lhs; whnf); (with_reducible assumption); rfl; (conv => whnf)) | (refine ⟨⟨by omega, by omega⟩, ?_⟩; (conv => whnf))))
    exact fin F5 ⟨kk, y, x, f, o, n, pp, d, l, a, ab, nm, ls⟩ A cc hrs hr5 hA5 hE4 ⟨none, 0, rfl, trivial⟩
  | true =>
    ((conv => whnf); repeat (first | (apply load_at; (conv => lhs; whnf); (with_reducible assumption); rfl; (conv => whnf)) | (apply load_at; (conv => lhs; rw [add_plain, add_plain]); (with_reducible assumption); rfl; (conv => whnf)) | (apply loads_at; (conv => lhs; whnf); (with_reducible assumption); rfl; (conv => whnf)) | (refine ⟨⟨by omega, by omega⟩, ?_⟩; (conv => whnf))))
    refine call_of (hask F5) ?_
    rintro v F6 ⟨rfl, hE6⟩
    have hz6 := hE6 _ _ hz4
    have hp6 := hE6 _ _ hp5
    have hr6 := hr5.mono hE6
    replace hE4 := hE4.trans hE6
    have hF6 := hE4
    ((conv => whnf); repeat (first | (apply load_at; (conv => lhs; whnf); (with_reducible assumption); rfl; (conv => whnf)) | (apply load_at; (conv => lhs; rw [add_plain, add_plain]); (with_reducible assumption); rfl; (conv => whnf)) | (apply loads_at; (conv => lhs; whnf); (with_reducible assumption); rfl; (conv => whnf)) | (refine ⟨⟨by omega, by omega⟩, ?_⟩; (conv => whnf))))
    intro b hb
    obtain rfl : b = letC g := hget b hb
    refine short [0, 1, 2, 6, 7, 8, 26] [.int .i64 (k : Int), str t, .bool true, .pointer (some ⟨z, 0, none⟩), .pointer (some ⟨p, 0, none⟩), .int .i64 (j : Int), .int .u8 ((letC g).toNat : Int)] rfl fun ρ => ?_
    have hg : g = 0 ∨ g = 1 ∨ g = 2 ∨ g = 3 ∨ g = 4 ∨ g = 5 ∨ g = 6 ∨ g = 7 ∨ g = 8 ∨ g = 9 ∨ g = 10 ∨ g = 11 ∨ g = 12 := by omega
    have hcut := fun F => rcut t (by omega) F
    obtain ⟨cw, hcw⟩ : ∃ q, q = cutL t := ⟨_, rfl⟩
    have hcl := cutL_less t
    rw [← hcw] at hcut hcl
    obtain ⟨w, t2, mr2⟩ := cw
    replace hcut : ∀ F, FnK Try.prog 21 #[str t] F (fun v F' => v = .tuple #[str w, str t2, .bool mr2] ∧ F' = F) := hcut
    obtain ⟨hcl1, hcl2, _⟩ := hcl
    replace hcl1 : w.length ≤ 5000 := Nat.le_trans hcl1 htl
    replace hcl2 : t2.length ≤ 5000 := Nat.le_trans hcl2 htl
    have hnum := fun F => number w (by omega) F
    have hrat := fun (hg : g ≤ 8) (F : Heap) => rat g hg p F
    have hn : ∀ (fs' : List Nat) (c' : CD), g ≤ 8 → rfieldsS (g :: fs') c' t true = rfieldsS fs' (setF c' g (rnumV w)) t2 mr2 := fun fs' c' hg8 => by
      show (if true = false then c' else if g = 10 then _ else if g = 11 then _ else if g = 12 then _ else if g = 9 then _ else rfieldsS fs' (setF c' g (rnumV (cutL t).1)) (cutL t).2.1 (cutL t).2.2) = _
      rw [if_neg (by decide), if_neg (by omega), if_neg (by omega), if_neg (by omega), if_neg (by omega), ← hcw]
    have h9 : ∀ (fs' : List Nat) (c' : CD), rfieldsS (9 :: fs') c' t true = rfieldsS fs' { c' with ab := w == yesL } t2 mr2 := fun fs' c' => by
      show rfieldsS fs' { c' with ab := (cutL t).1 == yesL } (cutL t).2.1 (cutL t).2.2 = _
      rw [← hcw]
    generalize rnumV w = zz at hnum hn
    rcases hg with rfl | rfl | rfl | rfl | rfl | rfl | rfl | rfl | rfl | rfl | rfl | rfl | rfl
    · rw [hn _ _ (by decide)] at hrs
      replace hrs : res = rfieldsS (fs.drop (j + 1)) ⟨kk, zz, x, f, o, n, pp, d, l, a, ab, nm, ls⟩ t2 mr2 := hrs
      replace hrat := hrat (by decide)
      ((conv => whnf); repeat (first | (apply load_at; (conv => lhs; whnf); (with_reducible assumption); rfl; (conv => whnf)) | (apply load_at; (conv => lhs; rw [add_plain, add_plain]); (with_reducible assumption); rfl; (conv => whnf)) | (apply loads_at; (conv => lhs; whnf); (with_reducible assumption); rfl; (conv => whnf)) | (refine ⟨⟨by omega, by omega⟩, ?_⟩; (conv => whnf))))
      refine call_of (hcut F6) ?_
      rintro v F7 ⟨rfl, rfl⟩
      ((conv => whnf); repeat (first | (apply load_at; (conv => lhs; whnf); (with_reducible assumption); rfl; (conv => whnf)) | (apply load_at; (conv => lhs; rw [add_plain, add_plain]); (with_reducible assumption); rfl; (conv => whnf)) | (apply loads_at; (conv => lhs; whnf); (with_reducible assumption); rfl; (conv => whnf)) | (refine ⟨⟨by omega, by omega⟩, ?_⟩; (conv => whnf))))
      refine call_of (hrat F7) ?_
      rintro v F8 ⟨rfl, rfl⟩
      ((conv => whnf); repeat (first | (apply load_at; (conv => lhs; whnf); (with_reducible assumption); rfl; (conv => whnf)) | (apply load_at; (conv => lhs; rw [add_plain, add_plain]); (with_reducible assumption); rfl; (conv => whnf)) | (apply loads_at; (conv => lhs; whnf); (with_reducible assumption); rfl; (conv => whnf)) | (refine ⟨⟨by omega, by omega⟩, ?_⟩; (conv => whnf))))
      refine call_of (hnum F8) ?_
      rintro v F9 ⟨rfl, rfl⟩
      ((conv => whnf); repeat (first | (apply load_at; (conv => lhs; whnf); (with_reducible assumption); rfl; (conv => whnf)) | (apply load_at; (conv => lhs; rw [add_plain, add_plain]); (with_reducible assumption); rfl; (conv => whnf)) | (apply loads_at; (conv => lhs; whnf); (with_reducible assumption); rfl; (conv => whnf)) | (refine ⟨⟨by omega, by omega⟩, ?_⟩; (conv => whnf))))
      refine store_step p 1 _ (cmdC kk zz x f o n pp d l a ab ⟨nm.toArray⟩ (.slice A ls.length cc)) rfl hp6 rfl rfl (.inl (Nat.le_refl 0)) (one_int _ _) ?_
      ((conv => whnf); repeat (first | (apply load_at; (conv => lhs; whnf); (with_reducible assumption); rfl; (conv => whnf)) | (apply load_at; (conv => lhs; rw [add_plain, add_plain]); (with_reducible assumption); rfl; (conv => whnf)) | (apply loads_at; (conv => lhs; whnf); (with_reducible assumption); rfl; (conv => whnf)) | (refine ⟨⟨by omega, by omega⟩, ?_⟩; (conv => whnf))))
      refine ⟨m - 1, by omega, j + 1, ⟨kk, zz, x, f, o, n, pp, d, l, a, ab, nm, ls⟩, t2, mr2, by omega, congrArg (fun q : Int => [Value.int .i64 (k : Int), str t2, .bool mr2, .pointer (some ⟨z, 0, none⟩), .pointer (some ⟨p, 0, none⟩), .int .i64 q]) hws, hcl2, hrs, ⟨A, cc, Heap.put_same _ _ _, rowAt_keepq hr6 (Keeps.put _ _ _) (fun a ha e => (hA5 a ha).1 (by simp [e])), hA5⟩, (Heap.put_other _ _ hzp).trans hz6, hputp _ _ hE4⟩
    · rw [hn _ _ (by decide)] at hrs
      replace hrs : res = rfieldsS (fs.drop (j + 1)) ⟨kk, y, zz, f, o, n, pp, d, l, a, ab, nm, ls⟩ t2 mr2 := hrs
      replace hrat := hrat (by decide)
      ((conv => whnf); repeat (first | (apply load_at; (conv => lhs; whnf); (with_reducible assumption); rfl; (conv => whnf)) | (apply load_at; (conv => lhs; rw [add_plain, add_plain]); (with_reducible assumption); rfl; (conv => whnf)) | (apply loads_at; (conv => lhs; whnf); (with_reducible assumption); rfl; (conv => whnf)) | (refine ⟨⟨by omega, by omega⟩, ?_⟩; (conv => whnf))))
      refine call_of (hcut F6) ?_
      rintro v F7 ⟨rfl, rfl⟩
      ((conv => whnf); repeat (first | (apply load_at; (conv => lhs; whnf); (with_reducible assumption); rfl; (conv => whnf)) | (apply load_at; (conv => lhs; rw [add_plain, add_plain]); (with_reducible assumption); rfl; (conv => whnf)) | (apply loads_at; (conv => lhs; whnf); (with_reducible assumption); rfl; (conv => whnf)) | (refine ⟨⟨by omega, by omega⟩, ?_⟩; (conv => whnf))))
      refine call_of (hrat F7) ?_
      rintro v F8 ⟨rfl, rfl⟩
      ((conv => whnf); repeat (first | (apply load_at; (conv => lhs; whnf); (with_reducible assumption); rfl; (conv => whnf)) | (apply load_at; (conv => lhs; rw [add_plain, add_plain]); (with_reducible assumption); rfl; (conv => whnf)) | (apply loads_at; (conv => lhs; whnf); (with_reducible assumption); rfl; (conv => whnf)) | (refine ⟨⟨by omega, by omega⟩, ?_⟩; (conv => whnf))))
      refine call_of (hnum F8) ?_
      rintro v F9 ⟨rfl, rfl⟩
      ((conv => whnf); repeat (first | (apply load_at; (conv => lhs; whnf); (with_reducible assumption); rfl; (conv => whnf)) | (apply load_at; (conv => lhs; rw [add_plain, add_plain]); (with_reducible assumption); rfl; (conv => whnf)) | (apply loads_at; (conv => lhs; whnf); (with_reducible assumption); rfl; (conv => whnf)) | (refine ⟨⟨by omega, by omega⟩, ?_⟩; (conv => whnf))))
      refine store_step p 2 _ (cmdC kk y zz f o n pp d l a ab ⟨nm.toArray⟩ (.slice A ls.length cc)) rfl hp6 rfl rfl (.inl (Nat.le_refl 0)) (one_int _ _) ?_
      ((conv => whnf); repeat (first | (apply load_at; (conv => lhs; whnf); (with_reducible assumption); rfl; (conv => whnf)) | (apply load_at; (conv => lhs; rw [add_plain, add_plain]); (with_reducible assumption); rfl; (conv => whnf)) | (apply loads_at; (conv => lhs; whnf); (with_reducible assumption); rfl; (conv => whnf)) | (refine ⟨⟨by omega, by omega⟩, ?_⟩; (conv => whnf))))
      refine ⟨m - 1, by omega, j + 1, ⟨kk, y, zz, f, o, n, pp, d, l, a, ab, nm, ls⟩, t2, mr2, by omega, congrArg (fun q : Int => [Value.int .i64 (k : Int), str t2, .bool mr2, .pointer (some ⟨z, 0, none⟩), .pointer (some ⟨p, 0, none⟩), .int .i64 q]) hws, hcl2, hrs, ⟨A, cc, Heap.put_same _ _ _, rowAt_keepq hr6 (Keeps.put _ _ _) (fun a ha e => (hA5 a ha).1 (by simp [e])), hA5⟩, (Heap.put_other _ _ hzp).trans hz6, hputp _ _ hE4⟩
    · rw [hn _ _ (by decide)] at hrs
      replace hrs : res = rfieldsS (fs.drop (j + 1)) ⟨kk, y, x, zz, o, n, pp, d, l, a, ab, nm, ls⟩ t2 mr2 := hrs
      replace hrat := hrat (by decide)
      ((conv => whnf); repeat (first | (apply load_at; (conv => lhs; whnf); (with_reducible assumption); rfl; (conv => whnf)) | (apply load_at; (conv => lhs; rw [add_plain, add_plain]); (with_reducible assumption); rfl; (conv => whnf)) | (apply loads_at; (conv => lhs; whnf); (with_reducible assumption); rfl; (conv => whnf)) | (refine ⟨⟨by omega, by omega⟩, ?_⟩; (conv => whnf))))
      refine call_of (hcut F6) ?_
      rintro v F7 ⟨rfl, rfl⟩
      ((conv => whnf); repeat (first | (apply load_at; (conv => lhs; whnf); (with_reducible assumption); rfl; (conv => whnf)) | (apply load_at; (conv => lhs; rw [add_plain, add_plain]); (with_reducible assumption); rfl; (conv => whnf)) | (apply loads_at; (conv => lhs; whnf); (with_reducible assumption); rfl; (conv => whnf)) | (refine ⟨⟨by omega, by omega⟩, ?_⟩; (conv => whnf))))
      refine call_of (hrat F7) ?_
      rintro v F8 ⟨rfl, rfl⟩
      ((conv => whnf); repeat (first | (apply load_at; (conv => lhs; whnf); (with_reducible assumption); rfl; (conv => whnf)) | (apply load_at; (conv => lhs; rw [add_plain, add_plain]); (with_reducible assumption); rfl; (conv => whnf)) | (apply loads_at; (conv => lhs; whnf); (with_reducible assumption); rfl; (conv => whnf)) | (refine ⟨⟨by omega, by omega⟩, ?_⟩; (conv => whnf))))
      refine call_of (hnum F8) ?_
      rintro v F9 ⟨rfl, rfl⟩
      ((conv => whnf); repeat (first | (apply load_at; (conv => lhs; whnf); (with_reducible assumption); rfl; (conv => whnf)) | (apply load_at; (conv => lhs; rw [add_plain, add_plain]); (with_reducible assumption); rfl; (conv => whnf)) | (apply loads_at; (conv => lhs; whnf); (with_reducible assumption); rfl; (conv => whnf)) | (refine ⟨⟨by omega, by omega⟩, ?_⟩; (conv => whnf))))
      refine store_step p 3 _ (cmdC kk y x zz o n pp d l a ab ⟨nm.toArray⟩ (.slice A ls.length cc)) rfl hp6 rfl rfl (.inl (Nat.le_refl 0)) (one_int _ _) ?_
      ((conv => whnf); repeat (first | (apply load_at; (conv => lhs; whnf); (with_reducible assumption); rfl; (conv => whnf)) | (apply load_at; (conv => lhs; rw [add_plain, add_plain]); (with_reducible assumption); rfl; (conv => whnf)) | (apply loads_at; (conv => lhs; whnf); (with_reducible assumption); rfl; (conv => whnf)) | (refine ⟨⟨by omega, by omega⟩, ?_⟩; (conv => whnf))))
      refine ⟨m - 1, by omega, j + 1, ⟨kk, y, x, zz, o, n, pp, d, l, a, ab, nm, ls⟩, t2, mr2, by omega, congrArg (fun q : Int => [Value.int .i64 (k : Int), str t2, .bool mr2, .pointer (some ⟨z, 0, none⟩), .pointer (some ⟨p, 0, none⟩), .int .i64 q]) hws, hcl2, hrs, ⟨A, cc, Heap.put_same _ _ _, rowAt_keepq hr6 (Keeps.put _ _ _) (fun a ha e => (hA5 a ha).1 (by simp [e])), hA5⟩, (Heap.put_other _ _ hzp).trans hz6, hputp _ _ hE4⟩
    · rw [hn _ _ (by decide)] at hrs
      replace hrs : res = rfieldsS (fs.drop (j + 1)) ⟨kk, y, x, f, zz, n, pp, d, l, a, ab, nm, ls⟩ t2 mr2 := hrs
      replace hrat := hrat (by decide)
      ((conv => whnf); repeat (first | (apply load_at; (conv => lhs; whnf); (with_reducible assumption); rfl; (conv => whnf)) | (apply load_at; (conv => lhs; rw [add_plain, add_plain]); (with_reducible assumption); rfl; (conv => whnf)) | (apply loads_at; (conv => lhs; whnf); (with_reducible assumption); rfl; (conv => whnf)) | (refine ⟨⟨by omega, by omega⟩, ?_⟩; (conv => whnf))))
      refine call_of (hcut F6) ?_
      rintro v F7 ⟨rfl, rfl⟩
      ((conv => whnf); repeat (first | (apply load_at; (conv => lhs; whnf); (with_reducible assumption); rfl; (conv => whnf)) | (apply load_at; (conv => lhs; rw [add_plain, add_plain]); (with_reducible assumption); rfl; (conv => whnf)) | (apply loads_at; (conv => lhs; whnf); (with_reducible assumption); rfl; (conv => whnf)) | (refine ⟨⟨by omega, by omega⟩, ?_⟩; (conv => whnf))))
      refine call_of (hrat F7) ?_
      rintro v F8 ⟨rfl, rfl⟩
      ((conv => whnf); repeat (first | (apply load_at; (conv => lhs; whnf); (with_reducible assumption); rfl; (conv => whnf)) | (apply load_at; (conv => lhs; rw [add_plain, add_plain]); (with_reducible assumption); rfl; (conv => whnf)) | (apply loads_at; (conv => lhs; whnf); (with_reducible assumption); rfl; (conv => whnf)) | (refine ⟨⟨by omega, by omega⟩, ?_⟩; (conv => whnf))))
      refine call_of (hnum F8) ?_
      rintro v F9 ⟨rfl, rfl⟩
      ((conv => whnf); repeat (first | (apply load_at; (conv => lhs; whnf); (with_reducible assumption); rfl; (conv => whnf)) | (apply load_at; (conv => lhs; rw [add_plain, add_plain]); (with_reducible assumption); rfl; (conv => whnf)) | (apply loads_at; (conv => lhs; whnf); (with_reducible assumption); rfl; (conv => whnf)) | (refine ⟨⟨by omega, by omega⟩, ?_⟩; (conv => whnf))))
      refine store_step p 4 _ (cmdC kk y x f zz n pp d l a ab ⟨nm.toArray⟩ (.slice A ls.length cc)) rfl hp6 rfl rfl (.inl (Nat.le_refl 0)) (one_int _ _) ?_
      ((conv => whnf); repeat (first | (apply load_at; (conv => lhs; whnf); (with_reducible assumption); rfl; (conv => whnf)) | (apply load_at; (conv => lhs; rw [add_plain, add_plain]); (with_reducible assumption); rfl; (conv => whnf)) | (apply loads_at; (conv => lhs; whnf); (with_reducible assumption); rfl; (conv => whnf)) | (refine ⟨⟨by omega, by omega⟩, ?_⟩; (conv => whnf))))
      refine ⟨m - 1, by omega, j + 1, ⟨kk, y, x, f, zz, n, pp, d, l, a, ab, nm, ls⟩, t2, mr2, by omega, congrArg (fun q : Int => [Value.int .i64 (k : Int), str t2, .bool mr2, .pointer (some ⟨z, 0, none⟩), .pointer (some ⟨p, 0, none⟩), .int .i64 q]) hws, hcl2, hrs, ⟨A, cc, Heap.put_same _ _ _, rowAt_keepq hr6 (Keeps.put _ _ _) (fun a ha e => (hA5 a ha).1 (by simp [e])), hA5⟩, (Heap.put_other _ _ hzp).trans hz6, hputp _ _ hE4⟩
    · rw [hn _ _ (by decide)] at hrs
      replace hrs : res = rfieldsS (fs.drop (j + 1)) ⟨kk, y, x, f, o, zz, pp, d, l, a, ab, nm, ls⟩ t2 mr2 := hrs
      replace hrat := hrat (by decide)
      ((conv => whnf); repeat (first | (apply load_at; (conv => lhs; whnf); (with_reducible assumption); rfl; (conv => whnf)) | (apply load_at; (conv => lhs; rw [add_plain, add_plain]); (with_reducible assumption); rfl; (conv => whnf)) | (apply loads_at; (conv => lhs; whnf); (with_reducible assumption); rfl; (conv => whnf)) | (refine ⟨⟨by omega, by omega⟩, ?_⟩; (conv => whnf))))
      refine call_of (hcut F6) ?_
      rintro v F7 ⟨rfl, rfl⟩
      ((conv => whnf); repeat (first | (apply load_at; (conv => lhs; whnf); (with_reducible assumption); rfl; (conv => whnf)) | (apply load_at; (conv => lhs; rw [add_plain, add_plain]); (with_reducible assumption); rfl; (conv => whnf)) | (apply loads_at; (conv => lhs; whnf); (with_reducible assumption); rfl; (conv => whnf)) | (refine ⟨⟨by omega, by omega⟩, ?_⟩; (conv => whnf))))
      refine call_of (hrat F7) ?_
      rintro v F8 ⟨rfl, rfl⟩
      ((conv => whnf); repeat (first | (apply load_at; (conv => lhs; whnf); (with_reducible assumption); rfl; (conv => whnf)) | (apply load_at; (conv => lhs; rw [add_plain, add_plain]); (with_reducible assumption); rfl; (conv => whnf)) | (apply loads_at; (conv => lhs; whnf); (with_reducible assumption); rfl; (conv => whnf)) | (refine ⟨⟨by omega, by omega⟩, ?_⟩; (conv => whnf))))
      refine call_of (hnum F8) ?_
      rintro v F9 ⟨rfl, rfl⟩
      ((conv => whnf); repeat (first | (apply load_at; (conv => lhs; whnf); (with_reducible assumption); rfl; (conv => whnf)) | (apply load_at; (conv => lhs; rw [add_plain, add_plain]); (with_reducible assumption); rfl; (conv => whnf)) | (apply loads_at; (conv => lhs; whnf); (with_reducible assumption); rfl; (conv => whnf)) | (refine ⟨⟨by omega, by omega⟩, ?_⟩; (conv => whnf))))
      refine store_step p 5 _ (cmdC kk y x f o zz pp d l a ab ⟨nm.toArray⟩ (.slice A ls.length cc)) rfl hp6 rfl rfl (.inl (Nat.le_refl 0)) (one_int _ _) ?_
      ((conv => whnf); repeat (first | (apply load_at; (conv => lhs; whnf); (with_reducible assumption); rfl; (conv => whnf)) | (apply load_at; (conv => lhs; rw [add_plain, add_plain]); (with_reducible assumption); rfl; (conv => whnf)) | (apply loads_at; (conv => lhs; whnf); (with_reducible assumption); rfl; (conv => whnf)) | (refine ⟨⟨by omega, by omega⟩, ?_⟩; (conv => whnf))))
      refine ⟨m - 1, by omega, j + 1, ⟨kk, y, x, f, o, zz, pp, d, l, a, ab, nm, ls⟩, t2, mr2, by omega, congrArg (fun q : Int => [Value.int .i64 (k : Int), str t2, .bool mr2, .pointer (some ⟨z, 0, none⟩), .pointer (some ⟨p, 0, none⟩), .int .i64 q]) hws, hcl2, hrs, ⟨A, cc, Heap.put_same _ _ _, rowAt_keepq hr6 (Keeps.put _ _ _) (fun a ha e => (hA5 a ha).1 (by simp [e])), hA5⟩, (Heap.put_other _ _ hzp).trans hz6, hputp _ _ hE4⟩
    · rw [hn _ _ (by decide)] at hrs
      replace hrs : res = rfieldsS (fs.drop (j + 1)) ⟨kk, y, x, f, o, n, zz, d, l, a, ab, nm, ls⟩ t2 mr2 := hrs
      replace hrat := hrat (by decide)
      ((conv => whnf); repeat (first | (apply load_at; (conv => lhs; whnf); (with_reducible assumption); rfl; (conv => whnf)) | (apply load_at; (conv => lhs; rw [add_plain, add_plain]); (with_reducible assumption); rfl; (conv => whnf)) | (apply loads_at; (conv => lhs; whnf); (with_reducible assumption); rfl; (conv => whnf)) | (refine ⟨⟨by omega, by omega⟩, ?_⟩; (conv => whnf))))
      refine call_of (hcut F6) ?_
      rintro v F7 ⟨rfl, rfl⟩
      ((conv => whnf); repeat (first | (apply load_at; (conv => lhs; whnf); (with_reducible assumption); rfl; (conv => whnf)) | (apply load_at; (conv => lhs; rw [add_plain, add_plain]); (with_reducible assumption); rfl; (conv => whnf)) | (apply loads_at; (conv => lhs; whnf); (with_reducible assumption); rfl; (conv => whnf)) | (refine ⟨⟨by omega, by omega⟩, ?_⟩; (conv => whnf))))
      refine call_of (hrat F7) ?_
      rintro v F8 ⟨rfl, rfl⟩
      ((conv => whnf); repeat (first | (apply load_at; (conv => lhs; whnf); (with_reducible assumption); rfl; (conv => whnf)) | (apply load_at; (conv => lhs; rw [add_plain, add_plain]); (with_reducible assumption); rfl; (conv => whnf)) | (apply loads_at; (conv => lhs; whnf); (with_reducible assumption); rfl; (conv => whnf)) | (refine ⟨⟨by omega, by omega⟩, ?_⟩; (conv => whnf))))
      refine call_of (hnum F8) ?_
      rintro v F9 ⟨rfl, rfl⟩
      ((conv => whnf); repeat (first | (apply load_at; (conv => lhs; whnf); (with_reducible assumption); rfl; (conv => whnf)) | (apply load_at; (conv => lhs; rw [add_plain, add_plain]); (with_reducible assumption); rfl; (conv => whnf)) | (apply loads_at; (conv => lhs; whnf); (with_reducible assumption); rfl; (conv => whnf)) | (refine ⟨⟨by omega, by omega⟩, ?_⟩; (conv => whnf))))
      refine store_step p 6 _ (cmdC kk y x f o n zz d l a ab ⟨nm.toArray⟩ (.slice A ls.length cc)) rfl hp6 rfl rfl (.inl (Nat.le_refl 0)) (one_int _ _) ?_
      ((conv => whnf); repeat (first | (apply load_at; (conv => lhs; whnf); (with_reducible assumption); rfl; (conv => whnf)) | (apply load_at; (conv => lhs; rw [add_plain, add_plain]); (with_reducible assumption); rfl; (conv => whnf)) | (apply loads_at; (conv => lhs; whnf); (with_reducible assumption); rfl; (conv => whnf)) | (refine ⟨⟨by omega, by omega⟩, ?_⟩; (conv => whnf))))
      refine ⟨m - 1, by omega, j + 1, ⟨kk, y, x, f, o, n, zz, d, l, a, ab, nm, ls⟩, t2, mr2, by omega, congrArg (fun q : Int => [Value.int .i64 (k : Int), str t2, .bool mr2, .pointer (some ⟨z, 0, none⟩), .pointer (some ⟨p, 0, none⟩), .int .i64 q]) hws, hcl2, hrs, ⟨A, cc, Heap.put_same _ _ _, rowAt_keepq hr6 (Keeps.put _ _ _) (fun a ha e => (hA5 a ha).1 (by simp [e])), hA5⟩, (Heap.put_other _ _ hzp).trans hz6, hputp _ _ hE4⟩
    · rw [hn _ _ (by decide)] at hrs
      replace hrs : res = rfieldsS (fs.drop (j + 1)) ⟨kk, y, x, f, o, n, pp, zz, l, a, ab, nm, ls⟩ t2 mr2 := hrs
      replace hrat := hrat (by decide)
      ((conv => whnf); repeat (first | (apply load_at; (conv => lhs; whnf); (with_reducible assumption); rfl; (conv => whnf)) | (apply load_at; (conv => lhs; rw [add_plain, add_plain]); (with_reducible assumption); rfl; (conv => whnf)) | (apply loads_at; (conv => lhs; whnf); (with_reducible assumption); rfl; (conv => whnf)) | (refine ⟨⟨by omega, by omega⟩, ?_⟩; (conv => whnf))))
      refine call_of (hcut F6) ?_
      rintro v F7 ⟨rfl, rfl⟩
      ((conv => whnf); repeat (first | (apply load_at; (conv => lhs; whnf); (with_reducible assumption); rfl; (conv => whnf)) | (apply load_at; (conv => lhs; rw [add_plain, add_plain]); (with_reducible assumption); rfl; (conv => whnf)) | (apply loads_at; (conv => lhs; whnf); (with_reducible assumption); rfl; (conv => whnf)) | (refine ⟨⟨by omega, by omega⟩, ?_⟩; (conv => whnf))))
      refine call_of (hrat F7) ?_
      rintro v F8 ⟨rfl, rfl⟩
      ((conv => whnf); repeat (first | (apply load_at; (conv => lhs; whnf); (with_reducible assumption); rfl; (conv => whnf)) | (apply load_at; (conv => lhs; rw [add_plain, add_plain]); (with_reducible assumption); rfl; (conv => whnf)) | (apply loads_at; (conv => lhs; whnf); (with_reducible assumption); rfl; (conv => whnf)) | (refine ⟨⟨by omega, by omega⟩, ?_⟩; (conv => whnf))))
      refine call_of (hnum F8) ?_
      rintro v F9 ⟨rfl, rfl⟩
      ((conv => whnf); repeat (first | (apply load_at; (conv => lhs; whnf); (with_reducible assumption); rfl; (conv => whnf)) | (apply load_at; (conv => lhs; rw [add_plain, add_plain]); (with_reducible assumption); rfl; (conv => whnf)) | (apply loads_at; (conv => lhs; whnf); (with_reducible assumption); rfl; (conv => whnf)) | (refine ⟨⟨by omega, by omega⟩, ?_⟩; (conv => whnf))))
      refine store_step p 7 _ (cmdC kk y x f o n pp zz l a ab ⟨nm.toArray⟩ (.slice A ls.length cc)) rfl hp6 rfl rfl (.inl (Nat.le_refl 0)) (one_int _ _) ?_
      ((conv => whnf); repeat (first | (apply load_at; (conv => lhs; whnf); (with_reducible assumption); rfl; (conv => whnf)) | (apply load_at; (conv => lhs; rw [add_plain, add_plain]); (with_reducible assumption); rfl; (conv => whnf)) | (apply loads_at; (conv => lhs; whnf); (with_reducible assumption); rfl; (conv => whnf)) | (refine ⟨⟨by omega, by omega⟩, ?_⟩; (conv => whnf))))
      refine ⟨m - 1, by omega, j + 1, ⟨kk, y, x, f, o, n, pp, zz, l, a, ab, nm, ls⟩, t2, mr2, by omega, congrArg (fun q : Int => [Value.int .i64 (k : Int), str t2, .bool mr2, .pointer (some ⟨z, 0, none⟩), .pointer (some ⟨p, 0, none⟩), .int .i64 q]) hws, hcl2, hrs, ⟨A, cc, Heap.put_same _ _ _, rowAt_keepq hr6 (Keeps.put _ _ _) (fun a ha e => (hA5 a ha).1 (by simp [e])), hA5⟩, (Heap.put_other _ _ hzp).trans hz6, hputp _ _ hE4⟩
    · rw [hn _ _ (by decide)] at hrs
      replace hrs : res = rfieldsS (fs.drop (j + 1)) ⟨kk, y, x, f, o, n, pp, d, zz, a, ab, nm, ls⟩ t2 mr2 := hrs
      replace hrat := hrat (by decide)
      ((conv => whnf); repeat (first | (apply load_at; (conv => lhs; whnf); (with_reducible assumption); rfl; (conv => whnf)) | (apply load_at; (conv => lhs; rw [add_plain, add_plain]); (with_reducible assumption); rfl; (conv => whnf)) | (apply loads_at; (conv => lhs; whnf); (with_reducible assumption); rfl; (conv => whnf)) | (refine ⟨⟨by omega, by omega⟩, ?_⟩; (conv => whnf))))
      refine call_of (hcut F6) ?_
      rintro v F7 ⟨rfl, rfl⟩
      ((conv => whnf); repeat (first | (apply load_at; (conv => lhs; whnf); (with_reducible assumption); rfl; (conv => whnf)) | (apply load_at; (conv => lhs; rw [add_plain, add_plain]); (with_reducible assumption); rfl; (conv => whnf)) | (apply loads_at; (conv => lhs; whnf); (with_reducible assumption); rfl; (conv => whnf)) | (refine ⟨⟨by omega, by omega⟩, ?_⟩; (conv => whnf))))
      refine call_of (hrat F7) ?_
      rintro v F8 ⟨rfl, rfl⟩
      ((conv => whnf); repeat (first | (apply load_at; (conv => lhs; whnf); (with_reducible assumption); rfl; (conv => whnf)) | (apply load_at; (conv => lhs; rw [add_plain, add_plain]); (with_reducible assumption); rfl; (conv => whnf)) | (apply loads_at; (conv => lhs; whnf); (with_reducible assumption); rfl; (conv => whnf)) | (refine ⟨⟨by omega, by omega⟩, ?_⟩; (conv => whnf))))
      refine call_of (hnum F8) ?_
      rintro v F9 ⟨rfl, rfl⟩
      ((conv => whnf); repeat (first | (apply load_at; (conv => lhs; whnf); (with_reducible assumption); rfl; (conv => whnf)) | (apply load_at; (conv => lhs; rw [add_plain, add_plain]); (with_reducible assumption); rfl; (conv => whnf)) | (apply loads_at; (conv => lhs; whnf); (with_reducible assumption); rfl; (conv => whnf)) | (refine ⟨⟨by omega, by omega⟩, ?_⟩; (conv => whnf))))
      refine store_step p 8 _ (cmdC kk y x f o n pp d zz a ab ⟨nm.toArray⟩ (.slice A ls.length cc)) rfl hp6 rfl rfl (.inl (Nat.le_refl 0)) (one_int _ _) ?_
      ((conv => whnf); repeat (first | (apply load_at; (conv => lhs; whnf); (with_reducible assumption); rfl; (conv => whnf)) | (apply load_at; (conv => lhs; rw [add_plain, add_plain]); (with_reducible assumption); rfl; (conv => whnf)) | (apply loads_at; (conv => lhs; whnf); (with_reducible assumption); rfl; (conv => whnf)) | (refine ⟨⟨by omega, by omega⟩, ?_⟩; (conv => whnf))))
      refine ⟨m - 1, by omega, j + 1, ⟨kk, y, x, f, o, n, pp, d, zz, a, ab, nm, ls⟩, t2, mr2, by omega, congrArg (fun q : Int => [Value.int .i64 (k : Int), str t2, .bool mr2, .pointer (some ⟨z, 0, none⟩), .pointer (some ⟨p, 0, none⟩), .int .i64 q]) hws, hcl2, hrs, ⟨A, cc, Heap.put_same _ _ _, rowAt_keepq hr6 (Keeps.put _ _ _) (fun a ha e => (hA5 a ha).1 (by simp [e])), hA5⟩, (Heap.put_other _ _ hzp).trans hz6, hputp _ _ hE4⟩
    · rw [hn _ _ (by decide)] at hrs
      replace hrs : res = rfieldsS (fs.drop (j + 1)) ⟨kk, y, x, f, o, n, pp, d, l, zz, ab, nm, ls⟩ t2 mr2 := hrs
      replace hrat := hrat (by decide)
      ((conv => whnf); repeat (first | (apply load_at; (conv => lhs; whnf); (with_reducible assumption); rfl; (conv => whnf)) | (apply load_at; (conv => lhs; rw [add_plain, add_plain]); (with_reducible assumption); rfl; (conv => whnf)) | (apply loads_at; (conv => lhs; whnf); (with_reducible assumption); rfl; (conv => whnf)) | (refine ⟨⟨by omega, by omega⟩, ?_⟩; (conv => whnf))))
      refine call_of (hcut F6) ?_
      rintro v F7 ⟨rfl, rfl⟩
      ((conv => whnf); repeat (first | (apply load_at; (conv => lhs; whnf); (with_reducible assumption); rfl; (conv => whnf)) | (apply load_at; (conv => lhs; rw [add_plain, add_plain]); (with_reducible assumption); rfl; (conv => whnf)) | (apply loads_at; (conv => lhs; whnf); (with_reducible assumption); rfl; (conv => whnf)) | (refine ⟨⟨by omega, by omega⟩, ?_⟩; (conv => whnf))))
      refine call_of (hrat F7) ?_
      rintro v F8 ⟨rfl, rfl⟩
      ((conv => whnf); repeat (first | (apply load_at; (conv => lhs; whnf); (with_reducible assumption); rfl; (conv => whnf)) | (apply load_at; (conv => lhs; rw [add_plain, add_plain]); (with_reducible assumption); rfl; (conv => whnf)) | (apply loads_at; (conv => lhs; whnf); (with_reducible assumption); rfl; (conv => whnf)) | (refine ⟨⟨by omega, by omega⟩, ?_⟩; (conv => whnf))))
      refine call_of (hnum F8) ?_
      rintro v F9 ⟨rfl, rfl⟩
      ((conv => whnf); repeat (first | (apply load_at; (conv => lhs; whnf); (with_reducible assumption); rfl; (conv => whnf)) | (apply load_at; (conv => lhs; rw [add_plain, add_plain]); (with_reducible assumption); rfl; (conv => whnf)) | (apply loads_at; (conv => lhs; whnf); (with_reducible assumption); rfl; (conv => whnf)) | (refine ⟨⟨by omega, by omega⟩, ?_⟩; (conv => whnf))))
      refine store_step p 9 _ (cmdC kk y x f o n pp d l zz ab ⟨nm.toArray⟩ (.slice A ls.length cc)) rfl hp6 rfl rfl (.inl (Nat.le_refl 0)) (one_int _ _) ?_
      ((conv => whnf); repeat (first | (apply load_at; (conv => lhs; whnf); (with_reducible assumption); rfl; (conv => whnf)) | (apply load_at; (conv => lhs; rw [add_plain, add_plain]); (with_reducible assumption); rfl; (conv => whnf)) | (apply loads_at; (conv => lhs; whnf); (with_reducible assumption); rfl; (conv => whnf)) | (refine ⟨⟨by omega, by omega⟩, ?_⟩; (conv => whnf))))
      refine ⟨m - 1, by omega, j + 1, ⟨kk, y, x, f, o, n, pp, d, l, zz, ab, nm, ls⟩, t2, mr2, by omega, congrArg (fun q : Int => [Value.int .i64 (k : Int), str t2, .bool mr2, .pointer (some ⟨z, 0, none⟩), .pointer (some ⟨p, 0, none⟩), .int .i64 q]) hws, hcl2, hrs, ⟨A, cc, Heap.put_same _ _ _, rowAt_keepq hr6 (Keeps.put _ _ _) (fun a ha e => (hA5 a ha).1 (by simp [e])), hA5⟩, (Heap.put_other _ _ hzp).trans hz6, hputp _ _ hE4⟩
    · rw [h9] at hrs
      replace hrs : res = rfieldsS (fs.drop (j + 1)) ⟨kk, y, x, f, o, n, pp, d, l, a, w == yesL, nm, ls⟩ t2 mr2 := hrs
      have hy := str_beq w yesL
      ((conv => whnf); repeat (first | (apply load_at; (conv => lhs; whnf); (with_reducible assumption); rfl; (conv => whnf)) | (apply load_at; (conv => lhs; rw [add_plain, add_plain]); (with_reducible assumption); rfl; (conv => whnf)) | (apply loads_at; (conv => lhs; whnf); (with_reducible assumption); rfl; (conv => whnf)) | (refine ⟨⟨by omega, by omega⟩, ?_⟩; (conv => whnf))))
      refine call_of (hcut F6) ?_
      rintro v F7 ⟨rfl, rfl⟩
      ((conv => whnf); repeat (first | (apply load_at; (conv => lhs; whnf); (with_reducible assumption); rfl; (conv => whnf)) | (apply load_at; (conv => lhs; rw [add_plain, add_plain]); (with_reducible assumption); rfl; (conv => whnf)) | (apply loads_at; (conv => lhs; whnf); (with_reducible assumption); rfl; (conv => whnf)) | (refine ⟨⟨by omega, by omega⟩, ?_⟩; (conv => whnf))))
      refine store_step p 10 _ (cmdC kk y x f o n pp d l a (w == yesL) ⟨nm.toArray⟩ (.slice A ls.length cc)) rfl hp6 ?_ rfl (.inl (Nat.le_refl 0)) (one_bool _) ?_
      · have hx : (putL (cmdC kk y x f o n pp d l a ab ⟨nm.toArray⟩ (.slice A ls.length cc)).toList 10 [Value.bool ((⟨w.toArray⟩ : ByteArray).toList == (⟨yesL.toArray⟩ : ByteArray).toList)]).toArray = cmdC kk y x f o n pp d l a (w == yesL) ⟨nm.toArray⟩ (.slice A ls.length cc) := by
          rw [hy]
          rfl
        exact hx
      ((conv => whnf); repeat (first | (apply load_at; (conv => lhs; whnf); (with_reducible assumption); rfl; (conv => whnf)) | (apply load_at; (conv => lhs; rw [add_plain, add_plain]); (with_reducible assumption); rfl; (conv => whnf)) | (apply loads_at; (conv => lhs; whnf); (with_reducible assumption); rfl; (conv => whnf)) | (refine ⟨⟨by omega, by omega⟩, ?_⟩; (conv => whnf))))
      refine ⟨m - 1, by omega, j + 1, ⟨kk, y, x, f, o, n, pp, d, l, a, w == yesL, nm, ls⟩, t2, mr2, by omega, congrArg (fun q : Int => [Value.int .i64 (k : Int), str t2, .bool mr2, .pointer (some ⟨z, 0, none⟩), .pointer (some ⟨p, 0, none⟩), .int .i64 q]) hws, hcl2, hrs, ⟨A, cc, Heap.put_same _ _ _, rowAt_keepq hr6 (Keeps.put _ _ _) (fun a ha e => (hA5 a ha).1 (by simp [e])), hA5⟩, (Heap.put_other _ _ hzp).trans hz6, hputp _ _ hE4⟩
    · replace hrs : res = ⟨kk, y, x, f, o, n, pp, d, l, a, ab, t, ls⟩ := hrs
      ((conv => whnf); repeat (first | (apply load_at; (conv => lhs; whnf); (with_reducible assumption); rfl; (conv => whnf)) | (apply load_at; (conv => lhs; rw [add_plain, add_plain]); (with_reducible assumption); rfl; (conv => whnf)) | (apply loads_at; (conv => lhs; whnf); (with_reducible assumption); rfl; (conv => whnf)) | (refine ⟨⟨by omega, by omega⟩, ?_⟩; (conv => whnf))))
      refine store_step p 11 _ (cmdC kk y x f o n pp d l a ab ⟨t.toArray⟩ (.slice A ls.length cc)) rfl hp6 rfl rfl (.inl (Nat.le_refl 0)) (one_str _) ?_
      have hp7 := Heap.put_same F6 p (cmdO kk y x f o n pp d l a ab ⟨t.toArray⟩ (.slice A ls.length cc))
      have hz7 := (Heap.put_other F6 (cmdO kk y x f o n pp d l a ab ⟨t.toArray⟩ (.slice A ls.length cc)) hzp).trans hz6
      have hr7 := rowAt_keepq hr6 (Keeps.put F6 p (cmdO kk y x f o n pp d l a ab ⟨t.toArray⟩ (.slice A ls.length cc))) (fun a ha e => (hA5 a ha).1 (by simp [e]))
      have hE7 := hputp F6 (cmdO kk y x f o n pp d l a ab ⟨t.toArray⟩ (.slice A ls.length cc)) hE4
      generalize F6.put p _ = F7 at hp7 hz7 hr7 hE7 ⊢
      ((conv => whnf); repeat (first | (apply load_at; (conv => lhs; whnf); (with_reducible assumption); rfl; (conv => whnf)) | (apply load_at; (conv => lhs; rw [add_plain, add_plain]); (with_reducible assumption); rfl; (conv => whnf)) | (apply loads_at; (conv => lhs; whnf); (with_reducible assumption); rfl; (conv => whnf)) | (refine ⟨⟨by omega, by omega⟩, ?_⟩; (conv => whnf))))
      refine store_step z 0 _ (cmdC kk y x f o n pp d l a ab ⟨t.toArray⟩ (.slice A ls.length cc)) rfl hz7 rfl rfl (.inl (Nat.le_refl 0)) (cmd_ones _ _ _ _ _ _ _ _ _ _ _ _ _ _ _) ?_
      have hzz := Heap.put_same F7 z (cmdO kk y x f o n pp d l a ab ⟨t.toArray⟩ (.slice A ls.length cc))
      ((conv => whnf); repeat (first | (apply load_at; (conv => lhs; whnf); (with_reducible assumption); rfl; (conv => whnf)) | (apply load_at; (conv => lhs; rw [add_plain, add_plain]); (with_reducible assumption); rfl; (conv => whnf)) | (apply loads_at; (conv => lhs; whnf); (with_reducible assumption); rfl; (conv => whnf)) | (refine ⟨⟨by omega, by omega⟩, ?_⟩; (conv => whnf))))
      refine res_cells tab_ok rfl rfl hzz rfl ?_
      ((conv => whnf); repeat (first | (apply load_at; (conv => lhs; whnf); (with_reducible assumption); rfl; (conv => whnf)) | (apply load_at; (conv => lhs; rw [add_plain, add_plain]); (with_reducible assumption); rfl; (conv => whnf)) | (apply loads_at; (conv => lhs; whnf); (with_reducible assumption); rfl; (conv => whnf)) | (refine ⟨⟨by omega, by omega⟩, ?_⟩; (conv => whnf))))
      exact fin F7 ⟨kk, y, x, f, o, n, pp, d, l, a, ab, t, ls⟩ A cc hrs hr7 hA5 hE7 ⟨none, 0, rfl, trivial⟩
    · have hspl := splitL_len t
      have hwd := fun F => rwordsOf t (by omega) F
      have hln := fun A c F h => rlines3 (splitL t) A c F h (fun w hw => by have := hspl.2 w hw; omega) (by omega)
      replace hrs : res = ⟨kk, y, x, f, o, n, pp, d, l, a, ab, nm, chunk3 (splitL t)⟩ := hrs
      generalize chunk3 (splitL t) = ls2 at hln hrs
      generalize splitL t = sp at hwd hln
      ((conv => whnf); repeat (first | (apply load_at; (conv => lhs; whnf); (with_reducible assumption); rfl; (conv => whnf)) | (apply load_at; (conv => lhs; rw [add_plain, add_plain]); (with_reducible assumption); rfl; (conv => whnf)) | (apply loads_at; (conv => lhs; whnf); (with_reducible assumption); rfl; (conv => whnf)) | (refine ⟨⟨by omega, by omega⟩, ?_⟩; (conv => whnf))))
      refine call_of (hwd F6) ?_
      rintro v F7 ⟨Aw, cw, rfl, hrw, hE7⟩
      ((conv => whnf); repeat (first | (apply load_at; (conv => lhs; whnf); (with_reducible assumption); rfl; (conv => whnf)) | (apply load_at; (conv => lhs; rw [add_plain, add_plain]); (with_reducible assumption); rfl; (conv => whnf)) | (apply loads_at; (conv => lhs; whnf); (with_reducible assumption); rfl; (conv => whnf)) | (refine ⟨⟨by omega, by omega⟩, ?_⟩; (conv => whnf))))
      refine call_of (hln Aw cw F7 hrw) ?_
      rintro v F8 ⟨B, cb, rfl, hrB, hfB, hE8⟩
      have hp8 := hE8 _ _ (hE7 _ _ hp6)
      have hz8 := hE8 _ _ (hE7 _ _ hz6)
      replace hE4 := (hE4.trans hE7).trans hE8
      have hB : ∀ a, B = some a → a.block ∉ [p, z] ∧ F a.block = none := fun a ha => by
        have h1 := hfB a ha
        refine ⟨fun hm => ?_, (hF6.trans hE7).none h1⟩
        simp only [List.mem_cons, List.not_mem_nil, or_false] at hm
        rcases hm with e | e
        · rw [e, hE7 _ _ hp6] at h1; cases h1
        · rw [e, hE7 _ _ hz6] at h1; cases h1
      ((conv => whnf); repeat (first | (apply load_at; (conv => lhs; whnf); (with_reducible assumption); rfl; (conv => whnf)) | (apply load_at; (conv => lhs; rw [add_plain, add_plain]); (with_reducible assumption); rfl; (conv => whnf)) | (apply loads_at; (conv => lhs; whnf); (with_reducible assumption); rfl; (conv => whnf)) | (refine ⟨⟨by omega, by omega⟩, ?_⟩; (conv => whnf))))
      refine store_step p 12 _ (cmdC kk y x f o n pp d l a ab ⟨nm.toArray⟩ (.slice B ls2.length cb)) rfl hp8 rfl rfl (.inl (Nat.le_refl 0)) (one_slice _ _ _) ?_
      have hp9 := Heap.put_same F8 p (cmdO kk y x f o n pp d l a ab ⟨nm.toArray⟩ (.slice B ls2.length cb))
      have hz9 := (Heap.put_other F8 (cmdO kk y x f o n pp d l a ab ⟨nm.toArray⟩ (.slice B ls2.length cb)) hzp).trans hz8
      have hr9 := rowAt_keepq hrB (Keeps.put F8 p (cmdO kk y x f o n pp d l a ab ⟨nm.toArray⟩ (.slice B ls2.length cb))) (fun a ha e => (hB a ha).1 (by simp [e]))
      have hE9 := hputp F8 (cmdO kk y x f o n pp d l a ab ⟨nm.toArray⟩ (.slice B ls2.length cb)) hE4
      generalize F8.put p _ = F9 at hp9 hz9 hr9 hE9 ⊢
      ((conv => whnf); repeat (first | (apply load_at; (conv => lhs; whnf); (with_reducible assumption); rfl; (conv => whnf)) | (apply load_at; (conv => lhs; rw [add_plain, add_plain]); (with_reducible assumption); rfl; (conv => whnf)) | (apply loads_at; (conv => lhs; whnf); (with_reducible assumption); rfl; (conv => whnf)) | (refine ⟨⟨by omega, by omega⟩, ?_⟩; (conv => whnf))))
      refine store_step z 0 _ (cmdC kk y x f o n pp d l a ab ⟨nm.toArray⟩ (.slice B ls2.length cb)) rfl hz9 rfl rfl (.inl (Nat.le_refl 0)) (cmd_ones _ _ _ _ _ _ _ _ _ _ _ _ _ _ _) ?_
      have hzz := Heap.put_same F9 z (cmdO kk y x f o n pp d l a ab ⟨nm.toArray⟩ (.slice B ls2.length cb))
      ((conv => whnf); repeat (first | (apply load_at; (conv => lhs; whnf); (with_reducible assumption); rfl; (conv => whnf)) | (apply load_at; (conv => lhs; rw [add_plain, add_plain]); (with_reducible assumption); rfl; (conv => whnf)) | (apply loads_at; (conv => lhs; whnf); (with_reducible assumption); rfl; (conv => whnf)) | (refine ⟨⟨by omega, by omega⟩, ?_⟩; (conv => whnf))))
      refine res_cells tab_ok rfl rfl hzz rfl ?_
      ((conv => whnf); repeat (first | (apply load_at; (conv => lhs; whnf); (with_reducible assumption); rfl; (conv => whnf)) | (apply load_at; (conv => lhs; rw [add_plain, add_plain]); (with_reducible assumption); rfl; (conv => whnf)) | (apply loads_at; (conv => lhs; whnf); (with_reducible assumption); rfl; (conv => whnf)) | (refine ⟨⟨by omega, by omega⟩, ?_⟩; (conv => whnf))))
      exact fin F9 ⟨kk, y, x, f, o, n, pp, d, l, a, ab, nm, ls2⟩ B cb hrs hr9 hB hE9 ⟨none, 0, rfl, trivial⟩
    · have hspl := splitL_len t
      have hwd := fun F => rwordsOf t (by omega) F
      have hln := fun A c F h => rlines2 (splitL t) A c F h (fun w hw => by have := hspl.2 w hw; omega) (by omega)
      replace hrs : res = ⟨kk, y, x, f, o, n, pp, d, l, a, ab, nm, chunk2 (splitL t)⟩ := hrs
      generalize chunk2 (splitL t) = ls2 at hln hrs
      generalize splitL t = sp at hwd hln
      ((conv => whnf); repeat (first | (apply load_at; (conv => lhs; whnf); (with_reducible assumption); rfl; (conv => whnf)) | (apply load_at; (conv => lhs; rw [add_plain, add_plain]); (with_reducible assumption); rfl; (conv => whnf)) | (apply loads_at; (conv => lhs; whnf); (with_reducible assumption); rfl; (conv => whnf)) | (refine ⟨⟨by omega, by omega⟩, ?_⟩; (conv => whnf))))
      refine call_of (hwd F6) ?_
      rintro v F7 ⟨Aw, cw, rfl, hrw, hE7⟩
      ((conv => whnf); repeat (first | (apply load_at; (conv => lhs; whnf); (with_reducible assumption); rfl; (conv => whnf)) | (apply load_at; (conv => lhs; rw [add_plain, add_plain]); (with_reducible assumption); rfl; (conv => whnf)) | (apply loads_at; (conv => lhs; whnf); (with_reducible assumption); rfl; (conv => whnf)) | (refine ⟨⟨by omega, by omega⟩, ?_⟩; (conv => whnf))))
      refine call_of (hln Aw cw F7 hrw) ?_
      rintro v F8 ⟨B, cb, rfl, hrB, hfB, hE8⟩
      have hp8 := hE8 _ _ (hE7 _ _ hp6)
      have hz8 := hE8 _ _ (hE7 _ _ hz6)
      replace hE4 := (hE4.trans hE7).trans hE8
      have hB : ∀ a, B = some a → a.block ∉ [p, z] ∧ F a.block = none := fun a ha => by
        have h1 := hfB a ha
        refine ⟨fun hm => ?_, (hF6.trans hE7).none h1⟩
        simp only [List.mem_cons, List.not_mem_nil, or_false] at hm
        rcases hm with e | e
        · rw [e, hE7 _ _ hp6] at h1; cases h1
        · rw [e, hE7 _ _ hz6] at h1; cases h1
      ((conv => whnf); repeat (first | (apply load_at; (conv => lhs; whnf); (with_reducible assumption); rfl; (conv => whnf)) | (apply load_at; (conv => lhs; rw [add_plain, add_plain]); (with_reducible assumption); rfl; (conv => whnf)) | (apply loads_at; (conv => lhs; whnf); (with_reducible assumption); rfl; (conv => whnf)) | (refine ⟨⟨by omega, by omega⟩, ?_⟩; (conv => whnf))))
      refine store_step p 12 _ (cmdC kk y x f o n pp d l a ab ⟨nm.toArray⟩ (.slice B ls2.length cb)) rfl hp8 rfl rfl (.inl (Nat.le_refl 0)) (one_slice _ _ _) ?_
      have hp9 := Heap.put_same F8 p (cmdO kk y x f o n pp d l a ab ⟨nm.toArray⟩ (.slice B ls2.length cb))
      have hz9 := (Heap.put_other F8 (cmdO kk y x f o n pp d l a ab ⟨nm.toArray⟩ (.slice B ls2.length cb)) hzp).trans hz8
      have hr9 := rowAt_keepq hrB (Keeps.put F8 p (cmdO kk y x f o n pp d l a ab ⟨nm.toArray⟩ (.slice B ls2.length cb))) (fun a ha e => (hB a ha).1 (by simp [e]))
      have hE9 := hputp F8 (cmdO kk y x f o n pp d l a ab ⟨nm.toArray⟩ (.slice B ls2.length cb)) hE4
      generalize F8.put p _ = F9 at hp9 hz9 hr9 hE9 ⊢
      ((conv => whnf); repeat (first | (apply load_at; (conv => lhs; whnf); (with_reducible assumption); rfl; (conv => whnf)) | (apply load_at; (conv => lhs; rw [add_plain, add_plain]); (with_reducible assumption); rfl; (conv => whnf)) | (apply loads_at; (conv => lhs; whnf); (with_reducible assumption); rfl; (conv => whnf)) | (refine ⟨⟨by omega, by omega⟩, ?_⟩; (conv => whnf))))
      refine store_step z 0 _ (cmdC kk y x f o n pp d l a ab ⟨nm.toArray⟩ (.slice B ls2.length cb)) rfl hz9 rfl rfl (.inl (Nat.le_refl 0)) (cmd_ones _ _ _ _ _ _ _ _ _ _ _ _ _ _ _) ?_
      have hzz := Heap.put_same F9 z (cmdO kk y x f o n pp d l a ab ⟨nm.toArray⟩ (.slice B ls2.length cb))
      ((conv => whnf); repeat (first | (apply load_at; (conv => lhs; whnf); (with_reducible assumption); rfl; (conv => whnf)) | (apply load_at; (conv => lhs; rw [add_plain, add_plain]); (with_reducible assumption); rfl; (conv => whnf)) | (apply loads_at; (conv => lhs; whnf); (with_reducible assumption); rfl; (conv => whnf)) | (refine ⟨⟨by omega, by omega⟩, ?_⟩; (conv => whnf))))
      refine res_cells tab_ok rfl rfl hzz rfl ?_
      ((conv => whnf); repeat (first | (apply load_at; (conv => lhs; whnf); (with_reducible assumption); rfl; (conv => whnf)) | (apply load_at; (conv => lhs; rw [add_plain, add_plain]); (with_reducible assumption); rfl; (conv => whnf)) | (apply loads_at; (conv => lhs; whnf); (with_reducible assumption); rfl; (conv => whnf)) | (refine ⟨⟨by omega, by omega⟩, ?_⟩; (conv => whnf))))
      exact fin F9 ⟨kk, y, x, f, o, n, pp, d, l, a, ab, nm, ls2⟩ B cb hrs hr9 hB hE9 ⟨none, 0, rfl, trivial⟩
end Go.Proofs.Ytbgijjoemnfnmaa.Al
