/- The contract of cmd.Encode, over what is known of memory. -/
import Derived.Test.YtkahpaipciooiacCmdNums
namespace Go.Proofs.Ytkahpaipciooiac.Al
open Go Go.Al Go.Proofs Go.RowKit
set_option maxHeartbeats 8000000
set_option maxRecDepth 100000
set_option linter.unusedVariables false
set_option linter.unusedSimpArgs false
def encL (e : List UInt8) (ls : List LD) : List UInt8 := ls.foldl (fun b q => putAllM 8 (putAllM 2 b [q.f, q.o, q.n]) [q.a]) e
def encH (c : CD) : List UInt8 := putAllM 8 (putAllM 1 (putAllM 4 (putAllM 2 (putAllM 1 [] [c.k]) [c.y, c.x, c.f, c.o, c.n, c.p]) [c.d]) [c.l]) [c.a]
def encM (c : CD) : List UInt8 := putAllM 1 (putAllM 1 (encH c) [if c.ab then 1 else 0, (c.nm.length : Int)] ++ c.nm) [(c.ls.length : Int)]
/-- A command's bytes. -/
def encB (c : CD) : List UInt8 := encL (encM c) c.ls
theorem encL_len : ∀ (ls : List LD) (e : List UInt8), (encL e ls).length ≤ e.length + 14 * ls.length := by
  intro ls
  induction ls with
  | nil => intro e; exact Nat.le_add_right _ _
  | cons q ls ih =>
    intro e
    have h1 := ih (putAllM 8 (putAllM 2 e [q.f, q.o, q.n]) [q.a])
    have h2 := putAllM_len 8 [q.a] (putAllM 2 e [q.f, q.o, q.n])
    have h3 := putAllM_len 2 [q.f, q.o, q.n] e
    simp only [List.length_cons, List.length_nil] at h1 h2 h3 ⊢
    show (encL (putAllM 8 (putAllM 2 e [q.f, q.o, q.n]) [q.a]) ls).length ≤ _
    omega
theorem encL_take (e : List UInt8) (ls : List LD) (j : Nat) (q : LD) (h : ls[j]? = some q) : encL e (ls.take (j + 1)) = putAllM 8 (putAllM 2 (encL e (ls.take j)) [q.f, q.o, q.n]) [q.a] := by
  unfold encL
  rw [List.take_add_one, h, Option.toList_some, List.foldl_append]
  rfl
theorem encH_len (c : CD) : (encH c).length ≤ 26 := by
  unfold encH
  have h1 := putAllM_len 1 [c.k] []
  have h2 := putAllM_len 2 [c.y, c.x, c.f, c.o, c.n, c.p] (putAllM 1 [] [c.k])
  have h3 := putAllM_len 4 [c.d] (putAllM 2 (putAllM 1 [] [c.k]) [c.y, c.x, c.f, c.o, c.n, c.p])
  have h4 := putAllM_len 1 [c.l] (putAllM 4 (putAllM 2 (putAllM 1 [] [c.k]) [c.y, c.x, c.f, c.o, c.n, c.p]) [c.d])
  have h5 := putAllM_len 8 [c.a] (putAllM 1 (putAllM 4 (putAllM 2 (putAllM 1 [] [c.k]) [c.y, c.x, c.f, c.o, c.n, c.p]) [c.d]) [c.l])
  simp only [List.length_cons, List.length_nil] at h1 h2 h3 h4 h5
  omega
theorem encM_len (c : CD) : (encM c).length ≤ 29 + c.nm.length := by
  unfold encM
  have h0 := encH_len c
  have h1 := putAllM_len 1 [if c.ab then 1 else 0, (c.nm.length : Int)] (encH c)
  have h2 := putAllM_len 1 [(c.ls.length : Int)] (putAllM 1 (encH c) [if c.ab then 1 else 0, (c.nm.length : Int)] ++ c.nm)
  rw [List.length_append] at h2
  simp only [List.length_cons, List.length_nil] at h1 h2
  omega
/-- One call of nums, with a row that was made for it. -/
theorem numsN (m : Nat) (hm : Siz m) (bs : List UInt8) (l : List Int) (F0 F : Heap) (w g : Nat) (hw : WS F0 F w bs) (hg : F g = none) (hl : bs.length + 8 * l.length ≤ 90000) :
    FnK Try.prog 48 #[.pointer (some ⟨w, 0, none⟩), .int .i64 m, .slice (some ⟨g, 0, none⟩) l.length l.length] (F.put g (.cells (l.map (Value.int .i64)).toArray 3)) (fun v F' => WS F0 F' w (putAllM m bs l)) := by
  have hwg : g ≠ w := fun e => by obtain ⟨S, h1, _⟩ := hw; rw [e, h1] at hg; cases hg
  refine (nums m hm bs l (some ⟨g, 0, none⟩) l.length F0 _ w (hw.mono (Ext.new hg _)) (row_new (Heap.put_same _ _ _)) (fun a ha => ?_) hl).mono fun v F' h => h.1
  cases ha
  exact hwg
theorem numsK (m : Nat) (hm : Siz m) (bs : List UInt8) (l : List Int) (F0 F : Heap) (w g : Nat) (hw : WS F0 F w bs) (hg : F g = none) (hl : bs.length + 8 * l.length ≤ 90000) :
    FnK Try.prog 48 #[.pointer (some ⟨w, 0, none⟩), .int .i64 m, .slice (some ⟨g, 0, none⟩) l.length l.length] (F.put g (.cells (l.map (Value.int .i64)).toArray 3)) (fun v F' => WS F0 F' w (putAllM m bs l) ∧ Keeps (F.put g (.cells (l.map (Value.int .i64)).toArray 3)) F' (some w)) := by
  have hwg : g ≠ w := fun e => by obtain ⟨S, h1, _⟩ := hw; rw [e, h1] at hg; cases hg
  refine nums m hm bs l (some ⟨g, 0, none⟩) l.length F0 _ w (hw.mono (Ext.new hg _)) (row_new (Heap.put_same _ _ _)) (fun a ha => ?_) hl
  cases ha
  exact hwg
theorem encode (k y x f o n p d l a : Int) (ab : Bool) (nm : List UInt8) (ls : List LD) (A : Option Addr) (c : Nat) (F : Heap) (hr : RowAt F A (linesV ls)) (hn : nm.length ≤ 100000) (hl : ls.length ≤ 10000) :
    FnK Try.prog 24 #[.agg (cmdC k y x f o n p d l a ab ⟨nm.toArray⟩ (.slice A ls.length c))] F (fun v F' => (∃ r, v = .tuple #[r, .int .i64 (if mayB ⟨k, y, x, f, o, n, p, d, l, a, ab, nm, ls⟩ then 0 else 1)] ∧ Bs F' r (if mayB ⟨k, y, x, f, o, n, p, d, l, a, ab, nm, ls⟩ then encB ⟨k, y, x, f, o, n, p, d, l, a, ab, nm, ls⟩ else [])) ∧ Ext F F') := by
  have hm := mayB_iff ⟨k, y, x, f, o, n, p, d, l, a, ab, nm, ls⟩
  have c1 := fun G hg => may k y x f o n p d l a ab nm ls A c G hg hn hl
  generalize mayB ⟨k, y, x, f, o, n, p, d, l, a, ab, nm, ls⟩ = q at hm c1 ⊢
  (refine fn_walk tab_ok Try.func24 rfl rfl rfl rfl ?_; (conv => whnf))
  refine new_step (cmdO k y x f o n p d l a ab ⟨nm.toArray⟩ (.slice A ls.length c)) rfl fun b hb => ?_
  have hE := Ext.new hb (cmdO k y x f o n p d l a ab ⟨nm.toArray⟩ (.slice A ls.length c))
  have hB := Heap.put_same F b (cmdO k y x f o n p d l a ab ⟨nm.toArray⟩ (.slice A ls.length c))
  generalize F.put b _ = F1 at hE hB ⊢
  (conv => whnf)
  refine ⟨⟨_, _, _, hB, rfl, Nat.le_refl 13, ?_⟩⟩
  (conv => whnf)
  refine call_of (c1 F1 (hr.mono hE)) ?_
  rintro v F2 ⟨rfl, hE2⟩
  have hB2 := hE2 _ _ hB
  replace hE2 := hE.trans hE2
  cases q with
  | false =>
    (conv => whnf)
    exact ⟨⟨_, rfl, Bs.nil _⟩, hE2⟩
  | true =>
  obtain ⟨_, n255, l255, _⟩ := hm.1 rfl
  dsimp only at n255 l255
  clear hm c1
  have hr2 := hr.mono hE2
  (conv => whnf)
  refine new_step (writerO (.slice none 0 0)) rfl fun w hw => ?_
  have hW : WS F2 (F2.put w (writerO (.slice none 0 0))) w [] := ⟨_, Heap.put_same _ _ _, hw, Mine.nil _ _ _ _ (Ext.new hw _)⟩
  generalize F2.put w _ = F3 at hW ⊢
  clear hw
  have b1 := putAllM_len 1 [k] []
  have b2 := putAllM_len 2 [y, x, f, o, n, p] (putAllM 1 [] [k])
  have b3 := putAllM_len 4 [d] (putAllM 2 (putAllM 1 [] [k]) [y, x, f, o, n, p])
  have b4 := putAllM_len 1 [l] (putAllM 4 (putAllM 2 (putAllM 1 [] [k]) [y, x, f, o, n, p]) [d])
  have b5 := encH_len ⟨k, y, x, f, o, n, p, d, l, a, ab, nm, ls⟩
  have b6 := encM_len ⟨k, y, x, f, o, n, p, d, l, a, ab, nm, ls⟩
  have b7 := putAllM_len 1 [if ab then 1 else 0, (nm.length : Int)] (encH ⟨k, y, x, f, o, n, p, d, l, a, ab, nm, ls⟩)
  have hM : encM ⟨k, y, x, f, o, n, p, d, l, a, ab, nm, ls⟩ = putAllM 1 (putAllM 1 (encH ⟨k, y, x, f, o, n, p, d, l, a, ab, nm, ls⟩) [if ab then 1 else 0, (nm.length : Int)] ++ nm) [(ls.length : Int)] := rfl
  have hH : encH ⟨k, y, x, f, o, n, p, d, l, a, ab, nm, ls⟩ = putAllM 8 (putAllM 1 (putAllM 4 (putAllM 2 (putAllM 1 [] [k]) [y, x, f, o, n, p]) [d]) [l]) [a] := rfl
  have hEB : encB ⟨k, y, x, f, o, n, p, d, l, a, ab, nm, ls⟩ = encL (encM ⟨k, y, x, f, o, n, p, d, l, a, ab, nm, ls⟩) ls := rfl
  generalize encB ⟨k, y, x, f, o, n, p, d, l, a, ab, nm, ls⟩ = eB at hEB ⊢
  generalize encM ⟨k, y, x, f, o, n, p, d, l, a, ab, nm, ls⟩ = eM at hM b6 hEB
  generalize encH ⟨k, y, x, f, o, n, p, d, l, a, ab, nm, ls⟩ = eH at hM hH b5 b7
  simp only [List.length_cons, List.length_nil] at b1 b2 b3 b4 b5 b6 b7
  (conv => whnf)
  refine load_blk (hW.ext _ _ hB2) rfl rfl ?_
  (conv => whnf)
  refine new_step (.cells (([k] : List Int).map (Value.int .i64)).toArray 3) rfl fun g hg => ?_
  (conv => whnf)
  refine call_of (numsN 1 (.inl rfl) [] [k] F2 _ w g hW hg (by simp only [List.length_cons, List.length_nil]; omega)) ?_
  clear hW hg
  rintro v F4 hW
  refine short [1, 4] [.pointer (some ⟨b, 0, none⟩), .pointer (some ⟨w, 0, none⟩)] rfl fun ρ => ?_
  (conv => whnf)
  refine load_blk (hW.ext _ _ hB2) rfl rfl ?_
  (conv => whnf)
  refine load_blk (hW.ext _ _ hB2) rfl rfl ?_
  (conv => whnf)
  refine load_blk (hW.ext _ _ hB2) rfl rfl ?_
  (conv => whnf)
  refine load_blk (hW.ext _ _ hB2) rfl rfl ?_
  (conv => whnf)
  refine load_blk (hW.ext _ _ hB2) rfl rfl ?_
  (conv => whnf)
  refine load_blk (hW.ext _ _ hB2) rfl rfl ?_
  (conv => whnf)
  refine new_step (.cells (([y, x, f, o, n, p] : List Int).map (Value.int .i64)).toArray 3) rfl fun g hg => ?_
  (conv => whnf)
  refine call_of (numsN 2 (.inr (.inl rfl)) (putAllM 1 [] [k]) [y, x, f, o, n, p] F2 _ w g hW hg (by simp only [List.length_cons, List.length_nil]; omega)) ?_
  clear hW hg
  rintro v F5 hW
  refine short [1, 4] [.pointer (some ⟨b, 0, none⟩), .pointer (some ⟨w, 0, none⟩)] rfl fun ρ => ?_
  (conv => whnf)
  refine load_blk (hW.ext _ _ hB2) rfl rfl ?_
  (conv => whnf)
  refine new_step (.cells (([d] : List Int).map (Value.int .i64)).toArray 3) rfl fun g hg => ?_
  (conv => whnf)
  refine call_of (numsN 4 (.inr (.inr (.inl rfl))) (putAllM 2 (putAllM 1 [] [k]) [y, x, f, o, n, p]) [d] F2 _ w g hW hg (by simp only [List.length_cons, List.length_nil]; omega)) ?_
  clear hW hg
  rintro v F6 hW
  (conv => whnf)
  refine load_blk (hW.ext _ _ hB2) rfl rfl ?_
  (conv => whnf)
  refine new_step (.cells (([l] : List Int).map (Value.int .i64)).toArray 3) rfl fun g hg => ?_
  (conv => whnf)
  refine call_of (numsN 1 (.inl rfl) (putAllM 4 (putAllM 2 (putAllM 1 [] [k]) [y, x, f, o, n, p]) [d]) [l] F2 _ w g hW hg (by simp only [List.length_cons, List.length_nil]; omega)) ?_
  clear hW hg
  rintro v F7 hW
  (conv => whnf)
  refine load_blk (hW.ext _ _ hB2) rfl rfl ?_
  (conv => whnf)
  refine new_step (.cells (([a] : List Int).map (Value.int .i64)).toArray 3) rfl fun g hg => ?_
  (conv => whnf)
  refine call_of (numsN 8 (.inr (.inr (.inr rfl))) (putAllM 1 (putAllM 4 (putAllM 2 (putAllM 1 [] [k]) [y, x, f, o, n, p]) [d]) [l]) [a] F2 _ w g hW hg (by simp only [List.length_cons, List.length_nil]; omega)) ?_
  clear hW hg
  rintro v F8 hW
  rw [← hH] at hW
  refine short [1, 4] [.pointer (some ⟨b, 0, none⟩), .pointer (some ⟨w, 0, none⟩)] rfl fun ρ => ?_
  (conv => whnf)
  refine draw_walk tab_ok (by kernel_rfl) [0, 1, 2, 4, 5, 6, 3, 7, 8] (by kernel_rfl) ?_
  (conv => whnf)
  refine load_blk (hW.ext _ _ hB2) rfl rfl ?_
  (conv => whnf)
  refine load_blk (hW.ext _ _ hB2) rfl rfl ?_
  (conv => whnf)
  refine call_of (bit ab _) ?_
  rintro v F8 ⟨rfl, rfl⟩
  refine ⟨Ext.refl _, ?_⟩
  generalize hbit : (if ab then (1 : Int) else 0) = bi at b7 hM
  (conv => whnf)
  refine new_step (.cells (([bi, (nm.length : Int)] : List Int).map (Value.int .i64)).toArray 3) rfl fun g hg => ?_
  (conv => whnf)
  refine call_of (numsN 1 (.inl rfl) eH [bi, (nm.length : Int)] F2 _ w g hW hg (by simp only [List.length_cons, List.length_nil]; omega)) ?_
  clear hW hg
  rintro v F9 hW
  generalize putAllM 1 eH [bi, (nm.length : Int)] = e6 at hW b7 hM
  refine short [1, 4] [.pointer (some ⟨b, 0, none⟩), .pointer (some ⟨w, 0, none⟩)] rfl fun ρ => ?_
  obtain ⟨S, hS, hS0, hSm⟩ := hW
  have hBS := hSm.ext _ _ hB2
  (conv => whnf)
  refine draw_walk tab_ok (by kernel_rfl) [0, 1, 2, 3, 4, 5, 6, 7, 8, 9, 10] (by kernel_rfl) ?_
  (conv => whnf)
  refine load_blk hS rfl rfl ?_
  (conv => whnf)
  refine load_blk hBS rfl rfl ?_
  (conv => whnf)
  refine append_mine tab_ok (m := nm.length) (ys := bytesOf nm) (y := .string ⟨nm.toArray⟩) rfl rfl rfl rfl rfl ⟨_, rfl, fun k h => by cases h⟩ ⟨_, rfl, rfl⟩ (by decide) hSm ⟨by simp [bytesOf], .inr ⟨_, rfl, rfl, by show nm.length = nm.toArray.size; simp, by simp [bytesOf]⟩⟩ (hone_bytes nm) (by show 2 * (e6.length + nm.length) * 1 ≤ _; omega) fun s' F10 hs' hkp => ?_
  have hSw := hSm.own.blk_ne hS u8_writer
  have hS10 := hkp _ _ hS hSw
  have hs2 : Mine F2 F10 s' 5 1 (e6 ++ nm).length (bytesOf (e6 ++ nm)) := by
    rw [List.length_append, bytes_app]; exact hs'
  clear hs'
  have hsw := hs2.own.blk_ne hS10 u8_writer
  obtain ⟨B', c', rfl, _⟩ := hs2.own.row
  have o1 : ∀ x ∈ [Value.slice B' (e6 ++ nm).length c'], x.oneCell' = true := by
    intro x hx
    rw [List.mem_singleton.1 hx]
    rfl
  (conv => whnf)
  refine store_step w 0 _ #[.slice B' (e6 ++ nm).length c'] rfl hS10 rfl rfl (.inl (Nat.le_refl 0)) o1 ?_
  have hW : WS F2 (F10.put w (writerO (.slice B' (e6 ++ nm).length c'))) w (e6 ++ nm) := ⟨_, Heap.put_same _ _ _, hS0, hs2.put hS0 hsw _⟩
  generalize F10.put w _ = F11 at hW ⊢
  clear hs2 hsw hS10 hkp hSw hSm hS hBS o1
  have b8 : (e6 ++ nm).length = e6.length + nm.length := List.length_append
  generalize e6 ++ nm = e7 at hW b8 hM
  (conv => whnf)
  refine load_blk (hW.ext _ _ hB2) rfl rfl ?_
  (conv => whnf)
  refine new_step (.cells (([(ls.length : Int)] : List Int).map (Value.int .i64)).toArray 3) rfl fun g hg => ?_
  (conv => whnf)
  refine call_of (numsN 1 (.inl rfl) e7 [(ls.length : Int)] F2 _ w g hW hg (by simp only [List.length_cons, List.length_nil]; omega)) ?_
  clear hW hg
  rintro v F12 hW
  rw [← hM] at hW
  refine short [1, 4] [.pointer (some ⟨b, 0, none⟩), .pointer (some ⟨w, 0, none⟩)] rfl fun ρ => ?_
  (conv => whnf)
  refine load_blk (hW.ext _ _ hB2) rfl rfl ?_
  (conv => whnf)
  refine loop_slots [4, 73, 74, 75] (fun mm vs F' => ∃ j : Nat, j + mm = ls.length ∧ vs = [.pointer (some ⟨w, 0, none⟩), .slice A ls.length c, .int .i64 (ls.length : Int), .int .i64 (j : Int)] ∧ WS F2 F' w (encL eM (ls.take j))) ls.length ⟨0, by omega, rfl, hW⟩ ?_
  clear hW
  rintro m vs F13 ρ ⟨j, hjm, rfl, hW⟩
  have bj := encL_len (ls.take j) eM
  rw [List.length_take] at bj
  (conv => whnf)
  refine cond_split (fun h => ?_) (fun h => ?_)
  · have hj : j < ls.length := by have := of_decide_eq_true h; omega
    obtain ⟨ad, rfl⟩ := hr.some (by rw [linesV_len]; omega)
    have hx : ls[j]? = some ls[j] := List.getElem?_eq_getElem hj
    have ht := encL_take eM ls j _ hx
    have hLr := fun (K : Value → Prop) => line_load (K := K) (hr2.mono hW.ext) hj
    have hja : ad.add (Int.toNat (j : Int) * 4) = ad.add (j * 4) := by rw [Int.toNat_natCast]
    rw [← hja] at hLr
    generalize ls[j] = q at ht hLr
    obtain ⟨wf, wo, wn, wa⟩ := q
    dsimp only at ht hLr
    have bj2 : (encL eM (ls.take j)).length ≤ 10000 := by
      have := Nat.min_le_right j ls.length
      omega
    have bj3 := putAllM_len 2 [wf, wo, wn] (encL eM (ls.take j))
    simp only [List.length_cons, List.length_nil] at bj3
    generalize encL eM (ls.take j) = cur at hW ht bj2 bj3
    (conv => whnf)
    refine ⟨⟨by omega, by omega⟩, ?_⟩
    (conv => whnf)
    refine hLr _ ?_
    (conv => whnf)
    refine new_step (lineO 0 0 0 0) rfl fun u hu => ?_
    have hU := Heap.put_same F13 u (lineO 0 0 0 0)
    have hEu : ∀ o, Ext F13 ((F13.put u (lineO 0 0 0 0)).put u o) := fun o => ext_put_put hu
    generalize F13.put u _ = F14 at hU hEu ⊢
    have o1 : ∀ v ∈ [Value.int .i64 wf, .int .i64 wo, .int .i64 wn, .int .i64 wa], v.oneCell' = true := by simp [Value.oneCell']
    (conv => whnf)
    refine store_step u 0 _ #[.int .i64 wf, .int .i64 wo, .int .i64 wn, .int .i64 wa] rfl hU rfl rfl (.inl (Nat.le_refl 0)) o1 ?_
    have hU15 := Heap.put_same F14 u (lineO wf wo wn wa)
    have hW15 := hW.mono (hEu (lineO wf wo wn wa))
    have huw : u ≠ w := fun e => by obtain ⟨S, h1, _⟩ := hW; rw [e, h1] at hu; cases hu
    generalize F14.put u _ = F15 at hU15 hW15 ⊢
    refine short [4, 6, 73, 74, 75] [.pointer (some ⟨w, 0, none⟩), .pointer (some ⟨u, 0, none⟩), .slice (some ad) ls.length c, .int .i64 (ls.length : Int), .int .i64 (j : Int)] rfl fun ρ => ?_
    (conv => whnf)
    refine load_blk hU15 rfl rfl ?_
    (conv => whnf)
    refine load_blk hU15 rfl rfl ?_
    (conv => whnf)
    refine load_blk hU15 rfl rfl ?_
    (conv => whnf)
    refine new_step (.cells (([wf, wo, wn] : List Int).map (Value.int .i64)).toArray 3) rfl fun g hg => ?_
    (conv => whnf)
    refine call_of (numsK 2 (.inr (.inl rfl)) cur [wf, wo, wn] F2 _ w g hW15 hg (by simp only [List.length_cons, List.length_nil]; omega)) ?_
    rintro v F16 ⟨hW16, hk16⟩
    have hU16 := hk16 _ _ ((Ext.new hg _) _ _ hU15) (fun e => huw (Option.some.inj e).symm)
    (conv => whnf)
    refine load_blk hU16 rfl rfl ?_
    (conv => whnf)
    refine new_step (.cells (([wa] : List Int).map (Value.int .i64)).toArray 3) rfl fun g hg => ?_
    (conv => whnf)
    refine call_of (numsN 8 (.inr (.inr (.inr rfl))) (putAllM 2 cur [wf, wo, wn]) [wa] F2 _ w g hW16 hg (by simp only [List.length_cons, List.length_nil]; omega)) ?_
    rintro v F17 hW17
    (conv => whnf)
    refine ⟨m - 1, by omega, j + 1, by omega, ?_, ?_⟩
    · have hw : IntKind.i64.wrap ((j : Int) + 1) = ((j + 1 : Nat) : Int) := by rw [IntKind.wrap_i64]; omega
      rw [← hw]
      rfl
    · rw [ht]; exact hW17
  · have hj : j = ls.length := by have := of_decide_eq_false h; omega
    subst hj
    rw [List.take_length, ← hEB] at hW
    obtain ⟨S, hS, hS0, hSm⟩ := hW
    (conv => whnf)
    refine load_blk hS rfl rfl ?_
    (conv => whnf)
    exact ⟨⟨S, rfl, Bs.of_mine hSm⟩, hE2.trans hSm.ext⟩
end Go.Proofs.Ytkahpaipciooiac.Al
