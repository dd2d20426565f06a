/- Texts of this claim, joined: DirB DirC DirD DirF DirG. -/
import Derived.Test.YtmpiggcooboenaaDoorMgDir1
import Derived.Test.YtmpiggcooboenaaDoorMgDir2
import Derived.Test.YtmpiggcooboenaaDoorMgDir3
import Derived.Test.YtmpiggcooboenaaDoorMgDir4
/- Directories: Get and Set. -/
namespace Go.Proofs.YtmpiggcooboenaaDoor.Al
open Go Go.Al Go.Proofs Go.RowKit
set_option maxHeartbeats 8000000
set_option maxRecDepth 100000
set_option linter.unusedVariables false
set_option linter.unusedSimpArgs false
theorem load_len {α : Type} {o : DOps α} {a : α} {p : Int} (h : loadE o a p = 0) : (loadL o a p).length = 240 := by
  unfold loadE at h
  unfold loadL
  split at h
  · next e =>
    rw [if_pos e, if_neg (by rw [h]; decide)]
    exact pg_len (o.sz a) (o.rdL a) p
  · cases h
theorem lk_mem : ∀ {S : PgL} {p : Int} {d : List UInt8}, lkS S p = some d → (p, d) ∈ S
  | x :: t, p, d, h => by
    have h : (if p = x.1 then some x.2 else lkS t p) = some d := h
    by_cases e : p = x.1
    · rw [if_pos e] at h
      cases h
      rw [e]
      exact List.mem_cons_self
    · rw [if_neg e] at h
      exact List.mem_cons_of_mem _ (lk_mem h)
theorem pgD_len {α : Type} {o : DOps α} {a : α} {S : PgL} {n p : Int} (hS : OkS n S) (h : pgE o a S p = 0) : (pgD o a S p).length = 240 := by
  unfold pgE at h
  unfold pgD
  cases e : lkS S p with
  | none => rw [e] at h; exact load_len h
  | some d => exact (hS _ (lk_mem e)).2
def putAt (l : List UInt8) (i : Nat) (page : Int) : List UInt8 := l.take i ++ (beM 4 page ++ l.drop (i + 4))
def dgE {α : Type} (o : DOps α) (a : α) (S : PgL) (d : Int) (ms : List Int) (slot : Int) : Int := if okF d ms.length slot = true then pgE o a S (fdP d ms slot) else 1
def dgN {α : Type} (o : DOps α) (a : α) (S : PgL) (d : Int) (ms : List Int) (slot : Int) : Int := if okF d ms.length slot = true then (if pgE o a S (fdP d ms slot) ≠ 0 then 0 else getN (pgD o a S (fdP d ms slot)) (fdA d ms slot).toNat 4) else 0
def dsE {α : Type} (o : DOps α) (a : α) (S : PgL) (d : Int) (ms : List Int) (slot page : Int) : Int := if okF d ms.length slot = true ∧ inM 4 page = true then (if pgE o a S (fdP d ms slot) ≠ 0 then pgE o a S (fdP d ms slot) else psE (o.sz a) (fdP d ms slot) (putAt (pgD o a S (fdP d ms slot)) (fdA d ms slot).toNat page)) else 1
def dsS {α : Type} (o : DOps α) (a : α) (S : PgL) (d : Int) (ms : List Int) (slot page : Int) : PgL := if okF d ms.length slot = true ∧ inM 4 page = true then (if pgE o a S (fdP d ms slot) ≠ 0 then S else psS (o.sz a) S (fdP d ms slot) (putAt (pgD o a S (fdP d ms slot)) (fdA d ms slot).toNat page)) else S
theorem fd_at {d : Int} {ms : List Int} {slot : Int} : ∃ i : Nat, fdA d ms slot = (i : Int) ∧ i ≤ 236 := by
  unfold fdA
  split
  · next h =>
    have := (of_decide_eq_true (show decide _ = true from h)).2.2.2.1
    exact ⟨(slot % 60 * 4).toNat, by omega, by omega⟩
  · exact ⟨0, rfl, by decide⟩
theorem putAt_len {l : List UInt8} {i : Nat} {page : Int} (hl : l.length = 240) (hi : i ≤ 236) : (putAt l i page).length = 240 := by
  unfold putAt
  rw [List.length_append, List.length_append, List.length_take, List.length_drop, beM_len]
  omega
theorem dirGet {D F : Heap} {pb : Nat} {s : DS} {q : Int} {S : PgL} (hE : Ext D F) (hD : Pg D pb s q S) (hN : NibAt F) (d f n k : Int) (A : Option Addr) (ms : List Int) (c : Nat) (slot : Int) (hr : RowAt F A (ms.map (.int .i64))) (hl : ms.length ≤ 1000000) :
    FnK Tryd.prog 13 #[.pointer (some ⟨pb, 0, none⟩), .agg (mtC d f n k A ms.length c), .int .i64 slot] F (fun v F' => v = .tuple #[.int .i64 (dgN dsO s S d ms slot), .int .i64 (dgE dsO s S d ms slot)] ∧ Ext F F') := by
  have k1 := fun F h => find_ d f n k A ms c slot F h hl
  have k2 := fun F hE hN => pgGet (F := F) hE hD hN (fdP d ms slot)
  obtain ⟨i, hi, hi2⟩ := fd_at (d := d) (ms := ms) (slot := slot)
  have hdl := pgD_len (o := dsO) (a := s) (p := fdP d ms slot) hD.2.1
  have hE0 : dgE dsO s S d ms slot = if okF d ms.length slot = true then pgE dsO s S (fdP d ms slot) else 1 := rfl
  have hN0 : dgN dsO s S d ms slot = if okF d ms.length slot = true then (if pgE dsO s S (fdP d ms slot) ≠ 0 then 0 else getN (pgD dsO s S (fdP d ms slot)) (fdA d ms slot).toNat 4) else 0 := rfl
  rw [hi] at hN0 k1
  rw [Int.toNat_natCast] at hN0
  generalize dgE dsO s S d ms slot = ge at hE0 ⊢
  generalize dgN dsO s S d ms slot = gn at hN0 ⊢
  generalize okF d ms.length slot = K at k1 hE0 hN0
  generalize fdP d ms slot = P at k1 k2 hdl hE0 hN0
  generalize pgE dsO s S P = e at k2 hdl hE0 hN0
  generalize pgD dsO s S P = dd at k2 hdl hN0
  (refine fn_walk tab_ok Tryd.func13 rfl rfl rfl rfl ?_; (conv => whnf))
  refine new_step (.cells (mtC d f n k A ms.length c) 24) rfl fun t h0_t => ?_
  have hE_t := Ext.new h0_t (.cells (mtC d f n k A ms.length c) 24)
  have hB_t := Heap.put_same F t (.cells (mtC d f n k A ms.length c) 24)
  generalize F.put t _ = F1 at hE_t hB_t ⊢
  ((conv => whnf); repeat (first | (apply load_at; (conv => lhs; whnf); (with_reducible assumption); rfl; (conv => whnf)) | (apply load_at; (conv => lhs; rw [add_plain, add_plain]); (with_reducible assumption); rfl; (conv => whnf)) | (apply loads_at; (conv => lhs; whnf); (with_reducible assumption); rfl; (conv => whnf)) | (refine ⟨⟨by omega, by omega⟩, ?_⟩; (conv => whnf))))
  refine call_of (k1 F1 (hr.mono hE_t)) ?_
  rintro v F2 ⟨rfl, hE2⟩
  refine short [0, 2, 4, 15] [.pointer (some ⟨pb, 0, none⟩), .int .i64 slot, .pointer (some ⟨t, 0, none⟩), .tuple #[.agg #[.int .i64 P, .int .i64 (i : Int)], .bool K]] rfl fun ρ => ?_
  ((conv => whnf); repeat (first | (apply load_at; (conv => lhs; whnf); (with_reducible assumption); rfl; (conv => whnf)) | (apply load_at; (conv => lhs; rw [add_plain, add_plain]); (with_reducible assumption); rfl; (conv => whnf)) | (apply loads_at; (conv => lhs; whnf); (with_reducible assumption); rfl; (conv => whnf)) | (refine ⟨⟨by omega, by omega⟩, ?_⟩; (conv => whnf))))
  refine new_step (.cells #[.int .i64 0, .int .i64 0] 95) rfl fun u h0_u => ?_
  have hU_u := Heap.put_same F2 u (.cells #[.int .i64 0, .int .i64 0] 95)
  have hX_u := fun o => (ext_put_put h0_u (o := .cells #[.int .i64 0, .int .i64 0] 95) (o' := o))
  generalize F2.put u (.cells #[.int .i64 0, .int .i64 0] 95) = F3 at hU_u hX_u ⊢
  (conv => whnf)
  refine store_step u 0 _ (#[.int .i64 P, .int .i64 (i : Int)]) rfl hU_u rfl rfl (.inl (Nat.le_refl 0)) (two_ints _ _) ?_
  have hB_u := Heap.put_same F3 u (.cells #[.int .i64 P, .int .i64 (i : Int)] 95)
  have hE_u := hX_u (.cells #[.int .i64 P, .int .i64 (i : Int)] 95)
  clear hU_u hX_u
  generalize F3.put u _ = F3 at hB_u hE_u ⊢
  have hE3 := hE_t.trans (hE2.trans hE_u)
  cases K with
  | false =>
    obtain rfl : ge = 1 := hE0
    obtain rfl : gn = 0 := hN0
    ((conv => whnf); repeat (first | (apply load_at; (conv => lhs; whnf); (with_reducible assumption); rfl; (conv => whnf)) | (apply load_at; (conv => lhs; rw [add_plain, add_plain]); (with_reducible assumption); rfl; (conv => whnf)) | (apply loads_at; (conv => lhs; whnf); (with_reducible assumption); rfl; (conv => whnf)) | (refine ⟨⟨by omega, by omega⟩, ?_⟩; (conv => whnf))))
    exact ⟨rfl, hE3⟩
  | true =>
  rw [if_pos rfl] at hE0 hN0
  subst hE0
  ((conv => whnf); repeat (first | (apply load_at; (conv => lhs; whnf); (with_reducible assumption); rfl; (conv => whnf)) | (apply load_at; (conv => lhs; rw [add_plain, add_plain]); (with_reducible assumption); rfl; (conv => whnf)) | (apply loads_at; (conv => lhs; whnf); (with_reducible assumption); rfl; (conv => whnf)) | (refine ⟨⟨by omega, by omega⟩, ?_⟩; (conv => whnf))))
  refine call_of (k2 F3 (hE.trans hE3) (hN.mono hE3)) ?_
  rintro v F4 ⟨w, rfl, ⟨B, bc, rfl, hbc, hbr, _⟩, hE4⟩
  have hB4 := hE4 _ _ hB_u
  refine short [8, 24] [.pointer (some ⟨u, 0, none⟩), .tuple #[.slice B dd.length bc, .int .i64 ge]] rfl fun ρ => ?_
  ((conv => whnf); repeat (first | (apply load_at; (conv => lhs; whnf); (with_reducible assumption); rfl; (conv => whnf)) | (apply load_at; (conv => lhs; rw [add_plain, add_plain]); (with_reducible assumption); rfl; (conv => whnf)) | (apply loads_at; (conv => lhs; whnf); (with_reducible assumption); rfl; (conv => whnf)) | (refine ⟨⟨by omega, by omega⟩, ?_⟩; (conv => whnf))))
  refine cond_split (fun h => ?_) (fun h => ?_)
  · have he : ge ≠ 0 := by
      have h : (ge != 0) = true := h
      simpa using h
    rw [if_pos he] at hN0
    subst hN0
    ((conv => whnf); repeat (first | (apply load_at; (conv => lhs; whnf); (with_reducible assumption); rfl; (conv => whnf)) | (apply load_at; (conv => lhs; rw [add_plain, add_plain]); (with_reducible assumption); rfl; (conv => whnf)) | (apply loads_at; (conv => lhs; whnf); (with_reducible assumption); rfl; (conv => whnf)) | (refine ⟨⟨by omega, by omega⟩, ?_⟩; (conv => whnf))))
    exact ⟨rfl, hE3.trans hE4⟩
  · have he : ge = 0 := by
      have h : (ge != 0) = false := h
      simpa using h
    rw [if_neg (by simpa using he)] at hN0
    subst hN0 he
    have hl4 := hdl rfl
    have k3 := getG 4 (.inr (.inr (.inl rfl))) dd B bc i F4 hbr (by omega) hbc (by omega)
    rw [show getE dd i 4 = 0 from if_pos (by omega)] at k3
    ((conv => whnf); repeat (first | (apply load_at; (conv => lhs; whnf); (with_reducible assumption); rfl; (conv => whnf)) | (apply load_at; (conv => lhs; rw [add_plain, add_plain]); (with_reducible assumption); rfl; (conv => whnf)) | (apply loads_at; (conv => lhs; whnf); (with_reducible assumption); rfl; (conv => whnf)) | (refine ⟨⟨by omega, by omega⟩, ?_⟩; (conv => whnf))))
    refine call_of k3 ?_
    rintro v F5 ⟨rfl, rfl⟩
    ((conv => whnf); repeat (first | (apply load_at; (conv => lhs; whnf); (with_reducible assumption); rfl; (conv => whnf)) | (apply load_at; (conv => lhs; rw [add_plain, add_plain]); (with_reducible assumption); rfl; (conv => whnf)) | (apply loads_at; (conv => lhs; whnf); (with_reducible assumption); rfl; (conv => whnf)) | (refine ⟨⟨by omega, by omega⟩, ?_⟩; (conv => whnf))))
    exact ⟨rfl, hE3.trans hE4⟩
end Go.Proofs.YtmpiggcooboenaaDoor.Al
/- Directories: Set. -/
namespace Go.Proofs.YtmpiggcooboenaaDoor.Al
open Go Go.Al Go.Proofs Go.RowKit
set_option maxHeartbeats 8000000
set_option maxRecDepth 100000
set_option linter.unusedVariables false
set_option linter.unusedSimpArgs false
theorem copy_live {P : Program} {T : Tab} (hT : TabOk P T) {o : Oper} {ev : Operand → Value} {F : Heap} {K : Value → Heap → Prop} {t u e e' : TypeId} {p q : Operand} {g off dl dc m : Nat} {y : Value} {ys : List Value} {cur : Array Value} {fz : Nat × Nat} {a1 a2 : Nat} {z1 : Option Value} {d : TD}
    (ho : o.op = .call ⟨.builtin .copy, #[p, q], #[t, u]⟩) (hp : ev p = .slice (some ⟨g, off, none⟩) dl dc) (hq : ev q = y) (h1 : T t = some ⟨a1, a2, .slice e, z1⟩) (h2 : T e = some d) (hd1 : d.size = 1)
    (hy : Src F 1 m y ys) (hg : F g = some (.cells cur e' fz)) (hfz : fz.2 ≤ fz.1 ∨ cur.size ≤ fz.1) (hsz : off + dl ≤ cur.size) (hone : ∀ v ∈ ys, v.oneCell' = true)
    (hk : K (.int .i64 (min m dl : Nat)) (F.put g (.cells (putL cur.toList off (ys.take (min m dl))).toArray e' fz))) : OpK P o ev F K := by
  obtain ⟨hu1, _⟩ := hT _ _ h1
  obtain ⟨_, i, hi, hs, _, _⟩ := hT _ _ h2
  refine ⟨opW_v (s := Builtin.copy_ #[t, u] o.type #[.slice (some ⟨g, off, none⟩) dl dc, y]) (by simp [execOp, ho, resolve, invoke, builtin, hp, hq]) ?_⟩
  unfold Builtin.copy_
  simp only [List.getElem?_toArray, List.getElem?_cons_zero, List.getElem?_cons_succ]
  rw [wk_bind, wk_underlying hu1]
  dsimp only
  rw [wk_bind]
  refine hy.len _ ?_
  rw [show Nat.min m dl = min m dl from rfl, wk_bind, wk_sizeOf hi, hs, hd1, wk_bind]
  have hlen : (ys.take (min m dl)).length = min m dl := by rw [List.length_take, hy.1, Nat.mul_one]; omega
  have hcl : ∀ K' : Array Value → Heap → Prop, K' (ys.take (min m dl)).toArray F → wk P (Builtin.firstCells 1 (min m dl) y) F K' := fun K' hK => by
    rcases hy.2 with ⟨A, c, rfl, hr⟩ | ⟨s, rfl, _, hm, hys⟩
    · exact wk_firstCells (hr.take (min m dl)) (by rw [hlen, Nat.mul_one]) K' hK
    · show K' ((s.extract 0 (min m dl)).data.map fun b => .int .u8 b.toNat) F
      have : ((s.extract 0 (min m dl)).data.map fun b : UInt8 => Value.int .u8 b.toNat) = (ys.take (min m dl)).toArray := by
        apply Array.ext'
        rw [hys, ← List.map_take]
        simp
      rw [this]; exact hK
  refine hcl _ ?_
  simp only [wk_bind]
  refine wk_storeCells (a := ⟨g, off, none⟩) (e := e') (fz := fz) rfl (ys.take (min m dl)) 0 F cur _ hg (by rw [hlen]; show off + 0 + min m dl ≤ _; omega) (hfz.imp id fun h => by rw [hlen]; show off + 0 + min m dl ≤ _; omega) (fun v hv => hone v (List.mem_of_mem_take hv)) ?_
  exact hk
theorem put4 {page : Int} (h : inM 4 page = true) : putM 4 [] page = beM 4 page := by
  unfold putM
  rw [h, cond_true, List.nil_append]
theorem bytes_take (l : List UInt8) (n : Nat) : (bytesOf l).take n = bytesOf (l.take n) := by unfold bytesOf; rw [List.map_take]
theorem bytes_drop (l : List UInt8) (n : Nat) : (bytesOf l).drop n = bytesOf (l.drop n) := by unfold bytesOf; rw [List.map_drop]
theorem dirSet {D F : Heap} {pb : Nat} {s : DS} {q : Int} {S : PgL} (hE : Ext D F) (hD : Pg D pb s q S) (hN : NibAt F) (d f n k : Int) (A : Option Addr) (ms : List Int) (c : Nat) (slot page : Int) (hr : RowAt F A (ms.map (.int .i64))) (hl : ms.length ≤ 1000000) :
    FnK Tryd.prog 11 #[.pointer (some ⟨pb, 0, none⟩), .agg (mtC d f n k A ms.length c), .int .i64 slot, .int .i64 page] F (fun v F' => v = .int .i64 (dsE dsO s S d ms slot page) ∧ ∃ D', Moves D F D' F' ∧ Pg D' pb s q (dsS dsO s S d ms slot page)) := by
  have k1 := fun F h => find_ d f n k A ms c slot F h hl
  have k0 := fun F => rightG 4 (.inr (.inr (.inl rfl))) page F
  have k2 := fun F hE hN => pgGetM (F := F) hE hD hN (fdP d ms slot)
  have kp := put4 (page := page)
  have k3 := fun F => putG 4 (.inr (.inr (.inl rfl))) [] none 0 page F (RowAt.nil _ _) (Nat.zero_le _)
  obtain ⟨i, hi, hi2⟩ := fd_at (d := d) (ms := ms) (slot := slot)
  have hdl := pgD_len (o := dsO) (a := s) (p := fdP d ms slot) hD.2.1
  have hE0 : dsE dsO s S d ms slot page = if okF d ms.length slot = true ∧ inM 4 page = true then (if pgE dsO s S (fdP d ms slot) ≠ 0 then pgE dsO s S (fdP d ms slot) else psE s.size (fdP d ms slot) (putAt (pgD dsO s S (fdP d ms slot)) (fdA d ms slot).toNat page)) else 1 := rfl
  have hS0 : dsS dsO s S d ms slot page = if okF d ms.length slot = true ∧ inM 4 page = true then (if pgE dsO s S (fdP d ms slot) ≠ 0 then S else psS s.size S (fdP d ms slot) (putAt (pgD dsO s S (fdP d ms slot)) (fdA d ms slot).toNat page)) else S := rfl
  have k4 := fun l F hE A c hr hl => pgSet (F := F) hE hD l A c hr hl (fdP d ms slot)
  have hpl := fun l h => putAt_len (l := l) (page := page) h hi2
  have hpd : ∀ l, putAt l i page = l.take i ++ (beM 4 page ++ l.drop (i + 4)) := fun l => rfl
  have hbl := beM_len 4 page
  rw [hi] at hE0 hS0 k1
  rw [Int.toNat_natCast] at hE0 hS0
  generalize dsE dsO s S d ms slot page = se at hE0 ⊢
  generalize dsS dsO s S d ms slot page = sS at hS0 ⊢
  generalize okF d ms.length slot = K at k1 hE0 hS0
  generalize inM 4 page = Z at k0 kp hE0 hS0
  generalize fdP d ms slot = P at k1 k2 k4 hdl hE0 hS0
  generalize pgE dsO s S P = e at k2 hdl hE0 hS0
  generalize pgD dsO s S P = dd at k2 hdl hE0 hS0
  generalize putM 4 [] page = pm at kp k3
  generalize beM 4 page = be at kp hpd hbl
  have hp : putAt dd i page = putAt dd i page := rfl
  have hpl := hpl dd
  have hpd := hpd dd
  have k4 := k4 (putAt dd i page)
  generalize putAt dd i page = nd at hE0 hS0 hpl hpd k4
  clear hp
  generalize psE s.size P nd = pe at k4 hE0
  generalize psS s.size S P nd = pS at k4 hS0
  (refine fn_walk tab_ok Tryd.func11 rfl rfl rfl rfl ?_; (conv => whnf))
  refine new_step (.cells (mtC d f n k A ms.length c) 24) rfl fun t h0_t => ?_
  have hE_t := Ext.new h0_t (.cells (mtC d f n k A ms.length c) 24)
  have hB_t := Heap.put_same F t (.cells (mtC d f n k A ms.length c) 24)
  generalize F.put t _ = F1 at hE_t hB_t ⊢
  ((conv => whnf); repeat (first | (apply load_at; (conv => lhs; whnf); (with_reducible assumption); rfl; (conv => whnf)) | (apply load_at; (conv => lhs; rw [add_plain, add_plain]); (with_reducible assumption); rfl; (conv => whnf)) | (apply loads_at; (conv => lhs; whnf); (with_reducible assumption); rfl; (conv => whnf)) | (refine ⟨⟨by omega, by omega⟩, ?_⟩; (conv => whnf))))
  refine call_of (k1 F1 (hr.mono hE_t)) ?_
  rintro v F2 ⟨rfl, hE2⟩
  refine short [0, 2, 3, 5, 16] [.pointer (some ⟨pb, 0, none⟩), .int .i64 slot, .int .i64 page, .pointer (some ⟨t, 0, none⟩), .tuple #[.agg #[.int .i64 P, .int .i64 (i : Int)], .bool K]] rfl fun ρ => ?_
  ((conv => whnf); repeat (first | (apply load_at; (conv => lhs; whnf); (with_reducible assumption); rfl; (conv => whnf)) | (apply load_at; (conv => lhs; rw [add_plain, add_plain]); (with_reducible assumption); rfl; (conv => whnf)) | (apply loads_at; (conv => lhs; whnf); (with_reducible assumption); rfl; (conv => whnf)) | (refine ⟨⟨by omega, by omega⟩, ?_⟩; (conv => whnf))))
  refine new_step (.cells #[.int .i64 0, .int .i64 0] 95) rfl fun u h0_u => ?_
  have hU_u := Heap.put_same F2 u (.cells #[.int .i64 0, .int .i64 0] 95)
  have hX_u := fun o => (ext_put_put h0_u (o := .cells #[.int .i64 0, .int .i64 0] 95) (o' := o))
  generalize F2.put u (.cells #[.int .i64 0, .int .i64 0] 95) = F3 at hU_u hX_u ⊢
  (conv => whnf)
  refine store_step u 0 _ (#[.int .i64 P, .int .i64 (i : Int)]) rfl hU_u rfl rfl (.inl (Nat.le_refl 0)) (two_ints _ _) ?_
  have hB_u := Heap.put_same F3 u (.cells #[.int .i64 P, .int .i64 (i : Int)] 95)
  have hE_u := hX_u (.cells #[.int .i64 P, .int .i64 (i : Int)] 95)
  clear hU_u hX_u
  generalize F3.put u _ = F3 at hB_u hE_u ⊢
  have hE3 := hE_t.trans (hE2.trans hE_u)
  cases K with
  | false =>
    rw [if_neg (by rintro ⟨h, _⟩; cases h)] at hE0 hS0
    subst hE0 hS0
    ((conv => whnf); repeat (first | (apply load_at; (conv => lhs; whnf); (with_reducible assumption); rfl; (conv => whnf)) | (apply load_at; (conv => lhs; rw [add_plain, add_plain]); (with_reducible assumption); rfl; (conv => whnf)) | (apply loads_at; (conv => lhs; whnf); (with_reducible assumption); rfl; (conv => whnf)) | (refine ⟨⟨by omega, by omega⟩, ?_⟩; (conv => whnf))))
    exact ⟨rfl, D, Moves.ext hE hE3, hD⟩
  | true =>
  ((conv => whnf); repeat (first | (apply load_at; (conv => lhs; whnf); (with_reducible assumption); rfl; (conv => whnf)) | (apply load_at; (conv => lhs; rw [add_plain, add_plain]); (with_reducible assumption); rfl; (conv => whnf)) | (apply loads_at; (conv => lhs; whnf); (with_reducible assumption); rfl; (conv => whnf)) | (refine ⟨⟨by omega, by omega⟩, ?_⟩; (conv => whnf))))
  refine call_of (k0 F3) ?_
  rintro v F3 ⟨rfl, rfl⟩
  cases Z with
  | false =>
    rw [if_neg (by rintro ⟨_, h⟩; cases h)] at hE0 hS0
    subst hE0 hS0
    ((conv => whnf); repeat (first | (apply load_at; (conv => lhs; whnf); (with_reducible assumption); rfl; (conv => whnf)) | (apply load_at; (conv => lhs; rw [add_plain, add_plain]); (with_reducible assumption); rfl; (conv => whnf)) | (apply loads_at; (conv => lhs; whnf); (with_reducible assumption); rfl; (conv => whnf)) | (refine ⟨⟨by omega, by omega⟩, ?_⟩; (conv => whnf))))
    exact ⟨rfl, D, Moves.ext hE hE3, hD⟩
  | true =>
  rw [if_pos ⟨rfl, rfl⟩] at hE0 hS0
  obtain rfl := kp rfl
  clear kp k0 k1
  refine short [0, 3, 9, 21, 23] [.pointer (some ⟨pb, 0, none⟩), .int .i64 page, .pointer (some ⟨u, 0, none⟩), .bool false, .bool true] rfl fun ρ => ?_
  ((conv => whnf); repeat (first | (apply load_at; (conv => lhs; whnf); (with_reducible assumption); rfl; (conv => whnf)) | (apply load_at; (conv => lhs; rw [add_plain, add_plain]); (with_reducible assumption); rfl; (conv => whnf)) | (apply loads_at; (conv => lhs; whnf); (with_reducible assumption); rfl; (conv => whnf)) | (refine ⟨⟨by omega, by omega⟩, ?_⟩; (conv => whnf))))
  refine call_of (k2 F3 (hE.trans hE3) (hN.mono hE3)) ?_
  rintro v F4 ⟨w, rfl, hM, hE4⟩
  have hB4 := hE4 _ _ hB_u
  refine short [0, 3, 9, 30] [.pointer (some ⟨pb, 0, none⟩), .int .i64 page, .pointer (some ⟨u, 0, none⟩), .tuple #[w, .int .i64 e]] rfl fun ρ => ?_
  ((conv => whnf); repeat (first | (apply load_at; (conv => lhs; whnf); (with_reducible assumption); rfl; (conv => whnf)) | (apply load_at; (conv => lhs; rw [add_plain, add_plain]); (with_reducible assumption); rfl; (conv => whnf)) | (apply loads_at; (conv => lhs; whnf); (with_reducible assumption); rfl; (conv => whnf)) | (refine ⟨⟨by omega, by omega⟩, ?_⟩; (conv => whnf))))
  refine cond_split (fun h => ?_) (fun h => ?_)
  · have he : e ≠ 0 := by
      have h : (e != 0) = true := h
      simpa using h
    rw [if_pos he] at hE0 hS0
    subst hE0 hS0
    ((conv => whnf); repeat (first | (apply load_at; (conv => lhs; whnf); (with_reducible assumption); rfl; (conv => whnf)) | (apply load_at; (conv => lhs; rw [add_plain, add_plain]); (with_reducible assumption); rfl; (conv => whnf)) | (apply loads_at; (conv => lhs; whnf); (with_reducible assumption); rfl; (conv => whnf)) | (refine ⟨⟨by omega, by omega⟩, ?_⟩; (conv => whnf))))
    exact ⟨rfl, D, Moves.ext hE (hE3.trans hE4), hD⟩
  have he : e = 0 := by
    have h : (e != 0) = false := h
    simpa using h
  rw [if_neg (by simpa using he)] at hE0 hS0
  subst hE0 hS0 he
  have hl4 := hdl rfl
  have hpl := hpl hl4
  obtain ⟨g, bc, cur, fz, rfl, hg, hsz, hnc, htk, hfz⟩ : ∃ g bc cur fz, w = .slice (some ⟨g, 0, none⟩) 240 bc ∧ F4 g = some (.cells cur 5 fz) ∧ cur.size = bc ∧ 240 ≤ bc ∧ cur.toList.take 240 = bytesOf dd ∧ (fz.2 ≤ fz.1 ∨ cur.size ≤ fz.1) := by
    obtain ⟨_, h2⟩ := hM.own
    rcases h2 with ⟨_, h3⟩ | ⟨g, bc, cur, h3, ⟨fz, h4, h5⟩, h6, h7, h8⟩
    · omega
    · rw [hl4] at h3 h7 h8
      exact ⟨g, bc, cur, fz, h3, h4, by omega, h7, h8, h5⟩
  have hgf : F3 g = none := hM.fresh g rfl
  have hgD : D g = none := (hE.trans hE3).none hgf
  have hgu : g ≠ u := fun e => by rw [e, hB_u] at hgf; cases hgf
  refine short [0, 3, 9, 11] [.pointer (some ⟨pb, 0, none⟩), .int .i64 page, .pointer (some ⟨u, 0, none⟩), .slice (some ⟨g, 0, none⟩) 240 bc] rfl fun ρ => ?_
  ((conv => whnf); repeat (first | (apply load_at; (conv => lhs; whnf); (with_reducible assumption); rfl; (conv => whnf)) | (apply load_at; (conv => lhs; rw [add_plain, add_plain]); (with_reducible assumption); rfl; (conv => whnf)) | (apply loads_at; (conv => lhs; whnf); (with_reducible assumption); rfl; (conv => whnf)) | (refine ⟨⟨by omega, by omega⟩, ?_⟩; (conv => whnf))))
  refine draw_walk tab_ok (by kernel_rfl) [0, 1, 2, 3, 4, 5, 6] (by kernel_rfl) ?_
  ((conv => whnf); repeat (first | (apply load_at; (conv => lhs; whnf); (with_reducible assumption); rfl; (conv => whnf)) | (apply load_at; (conv => lhs; rw [add_plain, add_plain]); (with_reducible assumption); rfl; (conv => whnf)) | (apply loads_at; (conv => lhs; whnf); (with_reducible assumption); rfl; (conv => whnf)) | (refine ⟨⟨by omega, by omega⟩, ?_⟩; (conv => whnf))))
  refine call_of (k3 F4) ?_
  rintro v F5 hM5
  have hE5 := hM5.ext
  obtain ⟨A5, c5, rfl, _, hr5⟩ := hM5.own.row
  (conv => whnf)
  refine ⟨hE5, ?_⟩
  ((conv => whnf); repeat (first | (apply load_at; (conv => lhs; whnf); (with_reducible assumption); rfl; (conv => whnf)) | (apply load_at; (conv => lhs; rw [add_plain, add_plain]); (with_reducible assumption); rfl; (conv => whnf)) | (apply loads_at; (conv => lhs; whnf); (with_reducible assumption); rfl; (conv => whnf)) | (refine ⟨⟨by omega, by omega⟩, ?_⟩; (conv => whnf))))
  refine copy_live (g := g) (off := i) (dl := 240 - i) (dc := bc - i) (m := pm.length) (ys := bytesOf pm) (y := .slice A5 pm.length c5) tab_ok rfl ?hp rfl rfl rfl rfl ⟨by rw [bytes_len]; exact (Nat.mul_one _).symm, .inl ⟨_, _, rfl, hr5⟩⟩ (hE5 _ _ hg) hfz (by omega) (hone_bytes _) ?_
  case hp =>
    conv => lhs; whnf
    refine slice_eq ?_ (by omega) (by omega)
    rw [if_neg (by omega), Int.toNat_natCast]
    show some (Addr.add ⟨g, 0, none⟩ (i * 1)) = _
    rw [add_plain, Nat.zero_add, Nat.mul_one]
  have hmin : List.take (min pm.length (240 - i)) (bytesOf pm) = bytesOf pm := List.take_of_length_le (by rw [bytes_len]; omega)
  have hB6 := Heap.put_same F5 g (.cells (putL cur.toList i (List.take (min pm.length (240 - i)) (bytesOf pm))).toArray 5 fz)
  have hEF : Ext F F5 := hE3.trans (hE4.trans hE5)
  have hE6 : Ext F (F5.put g (.cells (putL cur.toList i (List.take (min pm.length (240 - i)) (bytesOf pm))).toArray 5 fz)) := hEF.put (hE3.none hgf) _
  have hU6 : F5.put g (.cells (putL cur.toList i (List.take (min pm.length (240 - i)) (bytesOf pm))).toArray 5 fz) u = _ := (Heap.put_other _ _ (Ne.symm hgu)).trans (hE5 _ _ hB4)
  generalize F5.put g _ = F6 at hB6 hE6 hU6 ⊢
  rw [hmin] at hB6
  have hrow : RowAt F6 (some ⟨g, 0, none⟩) (bytesOf nd) := by
    have := (row_blk hB6).take 240
    rw [List.toList_toArray, putL_cut (by rw [bytes_len]; omega) (by rw [Array.length_toList]; omega), htk, bytes_len, hbl, bytes_take, bytes_drop, ← bytes_app, ← bytes_app, ← hpd] at this
    exact this
  have k5 := k4 F6 (hE.trans hE6) (some ⟨g, 0, none⟩) bc hrow (by omega)
  rw [hpl] at k5
  ((conv => whnf); repeat (first | (apply load_at; (conv => lhs; whnf); (with_reducible assumption); rfl; (conv => whnf)) | (apply load_at; (conv => lhs; rw [add_plain, add_plain]); (with_reducible assumption); rfl; (conv => whnf)) | (apply loads_at; (conv => lhs; whnf); (with_reducible assumption); rfl; (conv => whnf)) | (refine ⟨⟨by omega, by omega⟩, ?_⟩; (conv => whnf))))
  refine call_of k5 ?_
  rintro v F7 ⟨rfl, D', hM7, hD7⟩
  ((conv => whnf); repeat (first | (apply load_at; (conv => lhs; whnf); (with_reducible assumption); rfl; (conv => whnf)) | (apply load_at; (conv => lhs; rw [add_plain, add_plain]); (with_reducible assumption); rfl; (conv => whnf)) | (apply loads_at; (conv => lhs; whnf); (with_reducible assumption); rfl; (conv => whnf)) | (refine ⟨⟨by omega, by omega⟩, ?_⟩; (conv => whnf))))
  exact ⟨rfl, D', (Moves.ext hE hE6).trans hM7, hD7⟩
end Go.Proofs.YtmpiggcooboenaaDoor.Al
/- Directories: the reference's Set. -/
namespace Go.Proofs.YtmpiggcooboenaaDoor.Al
open Go Go.Al Go.Proofs Go.RowKit
set_option maxHeartbeats 8000000
set_option maxRecDepth 100000
set_option linter.unusedVariables false
set_option linter.unusedSimpArgs false
end Go.Proofs.YtmpiggcooboenaaDoor.Al
/- Directories: the law's words: fresh, awake. -/
namespace Go.Proofs.YtmpiggcooboenaaDoor.Al
open Go Go.Al Go.Proofs Go.RowKit
set_option maxHeartbeats 8000000
set_option maxRecDepth 100000
set_option linter.unusedVariables false
set_option linter.unusedSimpArgs false
theorem fresh11 (F : Heap) (hN : NibAt F) : FnK Tryd.prog 9 #[] F (fun v F' => ∃ pb xb D X s r, v = .tuple #[.pointer (some ⟨pb, 0, none⟩), .pointer (some ⟨xb, 0, none⟩)] ∧ Ext F F' ∧ Duo F' D X ∧ Apart D F ∧ Apart X F ∧ Pg D pb s 1 [] ∧ Rp X xb r 1 [] ∧ Sim s r ∧ Fresh 61 s) := by
  have hn : (3 : Int) ≤ ((61 : Nat) : Int) ∧ ((61 : Nat) : Int) ≤ 65536 := by decide
  obtain ⟨r1, r2, x1, x2, S2, hdone⟩ := start_n hn
  obtain ⟨f1, fm⟩ := fmt_fresh hn
  obtain ⟨f2, ff⟩ := frs_fresh hn
  have kF := fun D F b hE hD hN => redoFormat (D := D) (F := F) (b := b) (s := newS ((61 : Nat) : Int)) hE hD hN (by show (0 : Int) + 1 < _; omega)
  have kO := fun D F b hE hD hN => redoOpen (D := D) (F := F) (b := b) (s := fmtS ((61 : Nat) : Int)) hE hD hN (by rw [fm.writes]; decide)
  have e1 : runW dsO (newS ((61 : Nat) : Int)) [(0, noteB 0 1)] = (fmtS ((61 : Nat) : Int), 0) := Prod.ext rfl f1
  rw [e1] at kF
  have kG := fun D F b hE hD => rformat (D := D) (F := F) (b := b) (r := newR 61) hE hD (by show (0 : Int) + 1 < _; omega)
  rw [x1] at kG
  have kP := fun D F b hE hD => rgOpen (D := D) (F := F) (b := b) (r := r1) hE hD hdone
  rw [x2] at kP
  have e2 : openS dsO (fmtS ((61 : Nat) : Int)) = (frsS ((61 : Nat) : Int), 0, some 1) := Prod.ext rfl f2
  rw [e2] at kO
  dsimp only at kF kO kG kP
  clear fm f1 f2 e1 e2 x1 x2 hdone
  have h0 : pagesN (frsS ((61 : Nat) : Int)).size ≠ 0 := by rw [ff.size]; decide
  generalize fmtS ((61 : Nat) : Int) = sF at kF kO
  generalize frsS ((61 : Nat) : Int) = s at kO S2 ff h0
  (refine fn_walk tab_ok Tryd.func9 rfl rfl rfl rfl ?_; (conv => whnf))
  refine call_of (new_n hn F) ?_
  rintro v F1 ⟨b, D1, rfl, M1, K1⟩
  have E1 := fresh_ext M1
  refine short [0, 1, 13] [.pointer none, .pointer none, .tuple #[.pointer (some ⟨b, 0, none⟩), .int .i64 0]] rfl fun ρ => ?_
  ((conv => whnf); repeat (first | (apply load_at; (conv => lhs; whnf); (with_reducible assumption); rfl; (conv => whnf)) | (apply load_at; (conv => lhs; rw [add_plain, add_plain]); (with_reducible assumption); rfl; (conv => whnf)) | (apply loads_at; (conv => lhs; whnf); (with_reducible assumption); rfl; (conv => whnf)) | (refine ⟨⟨by omega, by omega⟩, ?_⟩; (conv => whnf))))
  refine call_of (kF D1 F1 b M1.inn K1 (hN.mono E1)) ?_
  rintro v F2 ⟨rfl, D2, M2, K2⟩
  have aD1 := apart_new M1
  have E2 := M2.keep E1 aD1
  have aD2 := M2.apart E1 aD1
  refine short [0, 1, 2, 17] [.pointer none, .pointer none, .pointer (some ⟨b, 0, none⟩), .int .i64 0] rfl fun ρ => ?_
  ((conv => whnf); repeat (first | (apply load_at; (conv => lhs; whnf); (with_reducible assumption); rfl; (conv => whnf)) | (apply load_at; (conv => lhs; rw [add_plain, add_plain]); (with_reducible assumption); rfl; (conv => whnf)) | (apply loads_at; (conv => lhs; whnf); (with_reducible assumption); rfl; (conv => whnf)) | (refine ⟨⟨by omega, by omega⟩, ?_⟩; (conv => whnf))))
  refine call_of (kO D2 F2 b M2.inn K2 (hN.mono E2)) ?_
  rintro v F3 ⟨w, D3, rfl, M3, K3, lb, rfl, g1, g2, g3⟩
  obtain ⟨M3, L3⟩ := lgv_take M3 K3 g1 g2 g3 (by decide)
  have E3 := M3.keep E2 aD2
  have aD3 := M3.apart E2 aD2
  generalize D3.put lb (lgO b 1) = D3 at M3 L3 aD3
  refine short [0, 1, 20] [.pointer none, .pointer none, .tuple #[.pointer (some ⟨lb, 0, none⟩), .int .i64 0]] rfl fun ρ => ?_
  ((conv => whnf); repeat (first | (apply load_at; (conv => lhs; whnf); (with_reducible assumption); rfl; (conv => whnf)) | (apply load_at; (conv => lhs; rw [add_plain, add_plain]); (with_reducible assumption); rfl; (conv => whnf)) | (apply loads_at; (conv => lhs; whnf); (with_reducible assumption); rfl; (conv => whnf)) | (refine ⟨⟨by omega, by omega⟩, ?_⟩; (conv => whnf))))
  refine call_of (pgNew M3.inn L3 h0) ?_
  rintro v F4 ⟨pb, D4, rfl, M4, P4⟩
  have E4 := M4.keep E3 aD3
  have aD4 := M4.apart E3 aD3
  refine short [0, 1, 25] [.pointer none, .pointer none, .tuple #[.pointer (some ⟨pb, 0, none⟩), .int .i64 0]] rfl fun ρ => ?_
  ((conv => whnf); repeat (first | (apply load_at; (conv => lhs; whnf); (with_reducible assumption); rfl; (conv => whnf)) | (apply load_at; (conv => lhs; rw [add_plain, add_plain]); (with_reducible assumption); rfl; (conv => whnf)) | (apply loads_at; (conv => lhs; whnf); (with_reducible assumption); rfl; (conv => whnf)) | (refine ⟨⟨by omega, by omega⟩, ?_⟩; (conv => whnf))))
  refine call_of (rnew ((61 : Nat) : Int) F4) ?_
  rintro v F5 h
  rcases h with ⟨h1, _⟩ | ⟨_, _, xb, X5, rfl, M5, K5⟩
  · omega
  rw [Int.toNat_natCast] at K5
  have E45 := fresh_ext M5
  have aX5 := apart_new M5
  have H5 : Duo F5 D4 X5 := ⟨M4.inn.trans E45, M5.inn, (aX5.symm.mono M4.inn)⟩
  have aX5F : Apart X5 F := fun c hc => E4.none (aX5 c hc)
  have E5 := E4.trans E45
  refine short [0, 1, 6, 29] [.pointer none, .pointer none, .pointer (some ⟨pb, 0, none⟩), .tuple #[.pointer (some ⟨xb, 0, none⟩), .int .i64 0]] rfl fun ρ => ?_
  ((conv => whnf); repeat (first | (apply load_at; (conv => lhs; whnf); (with_reducible assumption); rfl; (conv => whnf)) | (apply load_at; (conv => lhs; rw [add_plain, add_plain]); (with_reducible assumption); rfl; (conv => whnf)) | (apply loads_at; (conv => lhs; whnf); (with_reducible assumption); rfl; (conv => whnf)) | (refine ⟨⟨by omega, by omega⟩, ?_⟩; (conv => whnf))))
  refine call_of (kG X5 F5 xb H5.x K5) ?_
  rintro v F6 ⟨rfl, X6, M6, K6⟩
  obtain ⟨H6, T6⟩ := H5.onX M6
  refine short [0, 1, 6, 8, 33] [.pointer none, .pointer none, .pointer (some ⟨pb, 0, none⟩), .pointer (some ⟨xb, 0, none⟩), .int .i64 0] rfl fun ρ => ?_
  ((conv => whnf); repeat (first | (apply load_at; (conv => lhs; whnf); (with_reducible assumption); rfl; (conv => whnf)) | (apply load_at; (conv => lhs; rw [add_plain, add_plain]); (with_reducible assumption); rfl; (conv => whnf)) | (apply loads_at; (conv => lhs; whnf); (with_reducible assumption); rfl; (conv => whnf)) | (refine ⟨⟨by omega, by omega⟩, ?_⟩; (conv => whnf))))
  refine call_of (kP X6 F6 xb H6.x K6) ?_
  rintro v F7 ⟨w, X7, rfl, M7, K7, xl, rfl, g1, g2, g3⟩
  obtain ⟨M7, L7⟩ := rgv_take M7 K7 g1 g2 g3 (by decide)
  obtain ⟨H7, T7⟩ := H6.onX M7
  generalize X7.put xl (rgO xb 1) = X7 at M7 L7 H7 T7
  obtain ⟨E7, aD7, aX7⟩ := (T6.trans T7) F E5 aD4 aX5F
  refine short [0, 1, 6, 36] [.pointer none, .pointer none, .pointer (some ⟨pb, 0, none⟩), .tuple #[.pointer (some ⟨xl, 0, none⟩), .int .i64 0]] rfl fun ρ => ?_
  ((conv => whnf); repeat (first | (apply load_at; (conv => lhs; whnf); (with_reducible assumption); rfl; (conv => whnf)) | (apply load_at; (conv => lhs; rw [add_plain, add_plain]); (with_reducible assumption); rfl; (conv => whnf)) | (apply loads_at; (conv => lhs; whnf); (with_reducible assumption); rfl; (conv => whnf)) | (refine ⟨⟨by omega, by omega⟩, ?_⟩; (conv => whnf))))
  refine new_step (xpO xl (.slice none 0 0)) rfl fun xp h8 => ?_
  obtain ⟨m1, m2⟩ := rp_new H7.x L7 h8
  obtain ⟨H8, T8⟩ := H7.onX m1
  obtain ⟨E8, aD8, aX8⟩ := T8 F E7 aD7 aX7
  ((conv => whnf); repeat (first | (apply load_at; (conv => lhs; whnf); (with_reducible assumption); rfl; (conv => whnf)) | (apply load_at; (conv => lhs; rw [add_plain, add_plain]); (with_reducible assumption); rfl; (conv => whnf)) | (apply loads_at; (conv => lhs; whnf); (with_reducible assumption); rfl; (conv => whnf)) | (refine ⟨⟨by omega, by omega⟩, ?_⟩; (conv => whnf))))
  exact ⟨pb, xp, D4, _, s, r2, rfl, E8, H8, aD8, aX8, P4, m2, S2, ff⟩
end Go.Proofs.YtmpiggcooboenaaDoor.Al
/- Directories: what was set is got, in plain Lean; the laws' awake. -/
namespace Go.Proofs.YtmpiggcooboenaaDoor.Al
open Go Go.Al Go.Proofs Go.RowKit
set_option maxHeartbeats 8000000
set_option maxRecDepth 100000
set_option linter.unusedVariables false
set_option linter.unusedSimpArgs false
theorem get_same {l : List UInt8} {i : Nat} {page : Int} (hi : i + 4 ≤ l.length) (hp : inM 4 page = true) : getN (putAt l i page) i 4 = page := by
  have hl : (putAt l i page).length = l.length := by
    unfold putAt
    rw [List.length_append, List.length_append, List.length_take, List.length_drop, beM_len]; omega
  unfold getN
  rw [if_pos (by omega)]
  unfold putAt
  rw [List.drop_left' (by rw [List.length_take]; omega), List.take_left' (beM_len 4 page)]
  have h : (decide (0 ≤ page) && decide (page < 4294967296)) = true := hp
  rw [Bool.and_eq_true, decide_eq_true_iff, decide_eq_true_iff] at h
  exact getV_back (.inr (.inr (.inl rfl))) hp (by omega) (by omega)
theorem get_other {l : List UInt8} {i j : Nat} {page : Int} (hi : i + 4 ≤ l.length) (h : i + 4 ≤ j ∨ j + 4 ≤ i) : getN (putAt l i page) j 4 = getN l j 4 := by
  have hl : (putAt l i page).length = l.length := by
    unfold putAt
    rw [List.length_append, List.length_append, List.length_take, List.length_drop, beM_len]; omega
  have key : ((putAt l i page).drop j).take 4 = (l.drop j).take 4 := by
    apply List.ext_getElem?
    intro k
    rw [List.getElem?_take, List.getElem?_take]
    split
    · next hk =>
      rw [List.getElem?_drop, List.getElem?_drop]
      unfold putAt
      by_cases c : j + k < i
      · rw [List.getElem?_append_left (by rw [List.length_take]; omega), List.getElem?_take, if_pos c]
      · rw [List.getElem?_append_right (by rw [List.length_take]; omega), List.getElem?_append_right (by rw [List.length_take, beM_len]; omega), List.getElem?_drop, List.length_take, beM_len]
        congr 1
        omega
    · rfl
  unfold getN
  rw [hl, key]
theorem pgD_ins {α : Type} (o : DOps α) (a : α) (S : PgL) (p : Int) (d : List UInt8) (k : Int) : pgD o a (insS S p d) k = if k = p then d else pgD o a S k := by
  by_cases e : k = p
  · rw [if_pos e]; unfold pgD; rw [lk_ins, if_pos e]
  · rw [if_neg e]; unfold pgD; rw [lk_ins, if_neg e]
theorem pgE_up {s : DS} (hd : s.down = false) {S : PgL} {p : Int} (hp : isPg s.size p = true) : pgE dsO s S p = 0 := by
  unfold pgE
  cases lkS S p with
  | none => exact (load_c hd hp).1
  | some d => rfl
theorem psS_yes {n : Int} {S : PgL} {p : Int} {d : List UInt8} (h1 : isPg n p = true) (h2 : d.length = 240) : psE n p d = 0 ∧ psS n S p d = insS S p d := by
  unfold psE psS
  rw [if_pos ⟨h1, h2⟩, if_pos ⟨h1, h2⟩]
  exact ⟨rfl, rfl⟩
/-- A slot that may be set. -/
theorem set_get {s : DS} (hd : s.down = false) {S : PgL} (hS : OkS s.size S) {d : Int} {ms : List Int} {slot page : Int} (hk : okF d ms.length slot = true) (hp : inM 4 page = true) (hg : isPg s.size (fdP d ms slot) = true) :
    dsE dsO s S d ms slot page = 0 ∧ dgE dsO s (dsS dsO s S d ms slot page) d ms slot = 0 ∧ dgN dsO s (dsS dsO s S d ms slot page) d ms slot = page ∧ OkS s.size (dsS dsO s S d ms slot page) ∧
    ∀ slot2, okF d ms.length slot2 = true → isPg s.size (fdP d ms slot2) = true → (fdP d ms slot2 ≠ fdP d ms slot ∨ (fdA d ms slot2 ≠ fdA d ms slot ∧ fdA d ms slot2 % 4 = 0 ∧ fdA d ms slot % 4 = 0)) → dgN dsO s (dsS dsO s S d ms slot page) d ms slot2 = dgN dsO s S d ms slot2 := by
  have h0 := pgE_up hd (S := S) hg
  have hl := pgD_len (o := dsO) (a := s) hS h0
  obtain ⟨i, hi, hi2⟩ := fd_at (d := d) (ms := ms) (slot := slot)
  have hn := putAt_len (page := page) hl hi2
  obtain ⟨e1, e2⟩ := psS_yes (S := S) hg hn
  have eS : dsS dsO s S d ms slot page = insS S (fdP d ms slot) (putAt (pgD dsO s S (fdP d ms slot)) i page) := by
    unfold dsS
    rw [if_pos ⟨hk, hp⟩, if_neg (by rw [h0]; decide), hi, Int.toNat_natCast]
    exact e2
  have eE : dsE dsO s S d ms slot page = 0 := by
    unfold dsE
    rw [if_pos ⟨hk, hp⟩, if_neg (by rw [h0]; decide), hi, Int.toNat_natCast]
    exact e1
  have hO : OkS s.size (insS S (fdP d ms slot) (putAt (pgD dsO s S (fdP d ms slot)) i page)) := by
    rw [← e2]
    exact ps_ok hS _ _
  rw [eS]
  have hlk := pgD_ins dsO s S (fdP d ms slot) (putAt (pgD dsO s S (fdP d ms slot)) i page)
  generalize hnd : putAt (pgD dsO s S (fdP d ms slot)) i page = nd at *
  refine ⟨eE, ?_, ?_, hO, fun slot2 hk2 hg2 hne => ?_⟩
  · unfold dgE
    rw [if_pos hk]
    exact pgE_up hd hg
  · unfold dgN
    rw [if_pos hk, if_neg (by rw [pgE_up hd hg]; decide), hlk, if_pos rfl, hi, Int.toNat_natCast, ← hnd]
    exact get_same (by omega) hp
  · unfold dgN
    rw [if_pos hk2, if_pos hk2, if_neg (by rw [pgE_up hd hg2]; decide), if_neg (by rw [pgE_up hd hg2]; decide), hlk]
    by_cases e : fdP d ms slot2 = fdP d ms slot
    · obtain ⟨a1, a2, a3⟩ := hne.resolve_left (fun h => h e)
      obtain ⟨j, hj, hj2⟩ := fd_at (d := d) (ms := ms) (slot := slot2)
      rw [if_pos e, hj, Int.toNat_natCast, e, ← hnd]
      exact get_other (by omega) (by omega)
    · rw [if_neg e]
theorem mt_one (d f n k : Int) (A : Option Addr) (l c : Nat) : ∀ v ∈ (mtC d f n k A l c).toList, v.oneCell' = true := by simp [mtC, Value.oneCell']
theorem per_ (F : Heap) : FnK Tryd.prog 46 #[] F (fun v F' => v = .int .i64 60 ∧ F' = F) := by
  (refine fn_walk tab_ok Tryd.func46 rfl rfl rfl rfl ?_; (conv => whnf))
  exact ⟨rfl, rfl⟩
theorem awake11 (F : Heap) (hN : NibAt F) : FnK Tryd.prog 10 #[] F (fun v F' => v = .bool true ∧ Ext F F') := by
  have kf := fresh11 F hN
  have kd6 := need_ 6
  have kd10 := need_ 10
  rw [show needI 6 = 2 by decide] at kd6
  rw [show needI 10 = 18 by decide] at kd10
  have kset := fun D F pb s q hE hD hN A c hr => dirSet (D := D) (F := F) (pb := pb) (s := s) (q := q) (S := []) hE hD hN 6 0 0 0 A [3, 5] c 61 9 hr (by decide)
  have kget := fun D F pb s q hE hD hN A c hr => dirGet (D := D) (F := F) (pb := pb) (s := s) (q := q) (S := dsS dsO s [] 6 [3, 5] 61 9) hE hD hN 6 0 0 0 A [3, 5] c 61 hr (by decide)
  have hsg := fun s (hf : Fresh 61 s) => set_get (s := s) hf.up.down (S := []) (fun x h => by cases h) (d := 6) (ms := [3, 5]) (slot := 61) (page := 9) (by decide) (by decide) (by rw [hf.size]; decide)
  (refine fn_walk tab_ok Tryd.func10 rfl rfl rfl rfl ?_; (conv => whnf))
  refine call_of kf ?_
  rintro v F2 ⟨pb, xb, D, X, s, r, rfl, E2, H2, aD, aX, P2, R2, S2, ff⟩
  have hsg := hsg s ff
  have kset := fun F hE hN A c hr => kset D F pb s 1 hE P2 hN A c hr
  have kget := fun D F => kget D F pb s 1
  obtain ⟨q1, q2, q3, _, _⟩ := hsg
  rw [q1] at kset
  rw [q2, q3] at kget
  generalize dsS dsO s [] 6 [3, 5] 61 9 = S1 at kset kget
  clear q1 q2 q3
  refine short [0, 7] [.bool false, .tuple #[.pointer (some ⟨pb, 0, none⟩), .pointer (some ⟨xb, 0, none⟩)]] rfl fun ρ => ?_
  ((conv => whnf); repeat (first | (apply load_at; (conv => lhs; whnf); (with_reducible assumption); rfl; (conv => whnf)) | (apply load_at; (conv => lhs; rw [add_plain, add_plain]); (with_reducible assumption); rfl; (conv => whnf)) | (apply loads_at; (conv => lhs; whnf); (with_reducible assumption); rfl; (conv => whnf)) | (refine ⟨⟨by omega, by omega⟩, ?_⟩; (conv => whnf))))
  refine new_step (.cells #[.int .i64 3, .int .i64 5] 3) rfl fun g h0_g => ?_
  have hE_g := Ext.new h0_g (.cells #[.int .i64 3, .int .i64 5] 3)
  have hB_g := Heap.put_same F2 g (.cells #[.int .i64 3, .int .i64 5] 3)
  generalize F2.put g _ = F3 at hE_g hB_g ⊢
  have hrow := row_blk hB_g
  rw [List.toList_toArray] at hrow
  ((conv => whnf); repeat (first | (apply load_at; (conv => lhs; whnf); (with_reducible assumption); rfl; (conv => whnf)) | (apply load_at; (conv => lhs; rw [add_plain, add_plain]); (with_reducible assumption); rfl; (conv => whnf)) | (apply loads_at; (conv => lhs; whnf); (with_reducible assumption); rfl; (conv => whnf)) | (refine ⟨⟨by omega, by omega⟩, ?_⟩; (conv => whnf))))
  refine new_step (.cells (mtC 0 0 0 0 none 0 0) 24) rfl fun u h0_u => ?_
  have hU_u := Heap.put_same F3 u (.cells (mtC 0 0 0 0 none 0 0) 24)
  have hX_u := fun o => (ext_put_put h0_u (o := .cells (mtC 0 0 0 0 none 0 0) 24) (o' := o))
  generalize F3.put u (.cells (mtC 0 0 0 0 none 0 0) 24) = F4 at hU_u hX_u ⊢
  (conv => whnf)
  refine store_step u 0 _ (mtC 6 0 0 0 (some ⟨g, 0, none⟩) 2 2) rfl hU_u rfl rfl (.inl (Nat.le_refl 0)) (mt_one 6 0 0 0 (some ⟨g, 0, none⟩) 2 2) ?_
  have hB_u := Heap.put_same F4 u (.cells (mtC 6 0 0 0 (some ⟨g, 0, none⟩) 2 2) 24)
  have hE_u := hX_u (.cells (mtC 6 0 0 0 (some ⟨g, 0, none⟩) 2 2) 24)
  clear hU_u hX_u
  generalize F4.put u _ = F4 at hB_u hE_u ⊢
  have hE4 := hE_g.trans hE_u
  have E4 := E2.trans hE4
  replace hrow := hrow.mono hE_u
  have k5 := kset F4 (H2.d.trans hE4) (hN.mono E4) (some ⟨g, 0, none⟩) 2 hrow
  ((conv => whnf); repeat (first | (apply load_at; (conv => lhs; whnf); (with_reducible assumption); rfl; (conv => whnf)) | (apply load_at; (conv => lhs; rw [add_plain, add_plain]); (with_reducible assumption); rfl; (conv => whnf)) | (apply loads_at; (conv => lhs; whnf); (with_reducible assumption); rfl; (conv => whnf)) | (refine ⟨⟨by omega, by omega⟩, ?_⟩; (conv => whnf))))
  refine call_of k5 ?_
  rintro v F5 ⟨rfl, D5, M5, P5⟩
  have hU5 := M5.out _ _ hB_u ((H2.d.trans hE_g).none h0_u)
  have hG5 := M5.out _ _ (hE_u _ _ hB_g) (H2.d.none h0_g)
  have hrow5 := row_blk hG5
  rw [List.toList_toArray] at hrow5
  have E5 := M5.keep E4 aD
  refine short [0, 1, 3, 14, 17] [.bool false, .pointer (some ⟨pb, 0, none⟩), .pointer (some ⟨u, 0, none⟩), .bool false, .int .i64 0] rfl fun ρ => ?_
  ((conv => whnf); repeat (first | (apply load_at; (conv => lhs; whnf); (with_reducible assumption); rfl; (conv => whnf)) | (apply load_at; (conv => lhs; rw [add_plain, add_plain]); (with_reducible assumption); rfl; (conv => whnf)) | (apply loads_at; (conv => lhs; whnf); (with_reducible assumption); rfl; (conv => whnf)) | (refine ⟨⟨by omega, by omega⟩, ?_⟩; (conv => whnf))))
  refine call_of (kget D5 F5 M5.inn P5 (hN.mono E5) (some ⟨g, 0, none⟩) 2 hrow5) ?_
  rintro v F6 ⟨rfl, hE6⟩
  have E6 := E5.trans hE6
  refine short [0, 23] [.bool false, .tuple #[.int .i64 9, .int .i64 0]] rfl fun ρ => ?_
  ((conv => whnf); repeat (first | (apply load_at; (conv => lhs; whnf); (with_reducible assumption); rfl; (conv => whnf)) | (apply load_at; (conv => lhs; rw [add_plain, add_plain]); (with_reducible assumption); rfl; (conv => whnf)) | (apply loads_at; (conv => lhs; whnf); (with_reducible assumption); rfl; (conv => whnf)) | (refine ⟨⟨by omega, by omega⟩, ?_⟩; (conv => whnf))))
  refine call_of (kd6 F6) ?_
  rintro v F6 ⟨rfl, rfl⟩
  refine short [32, 33] [.bool true, .int .i64 2] rfl fun ρ => ?_
  ((conv => whnf); repeat (first | (apply load_at; (conv => lhs; whnf); (with_reducible assumption); rfl; (conv => whnf)) | (apply load_at; (conv => lhs; rw [add_plain, add_plain]); (with_reducible assumption); rfl; (conv => whnf)) | (apply loads_at; (conv => lhs; whnf); (with_reducible assumption); rfl; (conv => whnf)) | (refine ⟨⟨by omega, by omega⟩, ?_⟩; (conv => whnf))))
  refine call_of (per_ F6) ?_
  rintro v F6 ⟨rfl, rfl⟩
  refine short [36, 37] [.bool true, .int .i64 60] rfl fun ρ => ?_
  ((conv => whnf); repeat (first | (apply load_at; (conv => lhs; whnf); (with_reducible assumption); rfl; (conv => whnf)) | (apply load_at; (conv => lhs; rw [add_plain, add_plain]); (with_reducible assumption); rfl; (conv => whnf)) | (apply loads_at; (conv => lhs; whnf); (with_reducible assumption); rfl; (conv => whnf)) | (refine ⟨⟨by omega, by omega⟩, ?_⟩; (conv => whnf))))
  refine call_of (kd10 F6) ?_
  rintro v F6 ⟨rfl, rfl⟩
  refine short [40, 41] [.bool true, .int .i64 18] rfl fun ρ => ?_
  ((conv => whnf); repeat (first | (apply load_at; (conv => lhs; whnf); (with_reducible assumption); rfl; (conv => whnf)) | (apply load_at; (conv => lhs; rw [add_plain, add_plain]); (with_reducible assumption); rfl; (conv => whnf)) | (apply loads_at; (conv => lhs; whnf); (with_reducible assumption); rfl; (conv => whnf)) | (refine ⟨⟨by omega, by omega⟩, ?_⟩; (conv => whnf))))
  exact ⟨rfl, E6⟩
end Go.Proofs.YtmpiggcooboenaaDoor.Al
