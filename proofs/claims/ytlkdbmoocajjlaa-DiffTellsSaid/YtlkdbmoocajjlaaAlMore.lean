/- The logic of a known part of memory, 14: what is at hand often. It holds for every program. -/
import Derived.Test.YtlkdbmoocajjlaaAlFork
import Derived.Test.YtlkdbmoocajjlaaAlRows
import Derived.Test.YtlkdbmoocajjlaaAlNum
namespace Go.Al
open Go

theorem wrap_eq {x : Int} (h0 : -9223372036854775808 ≤ x) (h1 : x < 9223372036854775808) : IntKind.i64.wrap x = x := by
  rw [IntKind.wrap_i64]; omega
theorem wrap_succ {j : Nat} (h : j < 1000000000) : IntKind.i64.wrap ((j : Int) + 1) = ((j + 1 : Nat) : Int) := by
  rw [IntKind.wrap_i64]; omega
/-- A region told once, whatever comes behind it. -/
theorem draw_cut {P : Program} {T : Tab} {ops : Array Oper} {K : Env → Heap → Prop} {env : Env} {F : Heap} (Post : Env → Heap → Prop) (h : ∀ K : Env → Heap → Prop, (∀ env' F', Post env' F' → K env' F') → DrawK P T ops K env F) (hk : ∀ env' F', Post env' F' → K env' F') : DrawK P T ops K env F := h K hk
theorem one_slice (A : Option Addr) (n c : Nat) : ∀ v ∈ [Value.slice A n c], v.oneCell' = true := by simp [Value.oneCell']
theorem one_int (k : IntKind) (n : Int) : ∀ v ∈ [Value.int k n], v.oneCell' = true := by simp [Value.oneCell']
theorem one_bool (b : Bool) : ∀ v ∈ [Value.bool b], v.oneCell' = true := by simp [Value.oneCell']
theorem one_ptr (a : Option Addr) : ∀ v ∈ [Value.pointer a], v.oneCell' = true := by simp [Value.oneCell']
theorem one_map (a : Option Nat) : ∀ v ∈ [Value.map a], v.oneCell' = true := by simp [Value.oneCell']
theorem one_cons {v : Value} {vs : List Value} (h : v.oneCell' = true) (k : ∀ u ∈ vs, u.oneCell' = true) : ∀ u ∈ v :: vs, u.oneCell' = true := fun u hu => by
  rcases List.mem_cons.1 hu with rfl | hu
  · exact h
  · exact k u hu
theorem load_at {F : Heap} {a : Addr} {K : Value → Prop} {v : Value} {c : Array Value} {e : TypeId} {fz : Nat × Nat} {b off : Nat} (ha : a = ⟨b, off, none⟩) (hb : F b = some (.cells c e fz)) (hv : c[off]? = some v) (hk : K v) : LoadK F a K := by
  subst ha
  exact load_blk hb rfl hv hk
theorem loads_at {F : Heap} {a : Addr} {n : Nat} {K : Value → Prop} {c : Array Value} {e : TypeId} {fz : Nat × Nat} {b : Nat} (ha : a = ⟨b, 0, none⟩) (hb : F b = some (.cells c e fz)) (hn : c.size = n) (hk : K (.agg c)) : LoadsK F a n K := by
  subst ha
  refine ⟨⟨c, e, fz, hb, rfl, by show 0 + n ≤ c.size; omega, ?_⟩⟩
  show K (.agg (c.extract 0 (0 + n)))
  rw [Nat.zero_add, ← hn, Array.extract_size]
  exact hk
theorem row_blk {F : Heap} {b : Nat} {cs : Array Value} {e : TypeId} {fz : Nat × Nat} (h : F b = some (.cells cs e fz)) : RowAt F (some ⟨b, 0, none⟩) cs.toList := fun j v hj => ⟨_, rfl, by rw [add_plain, Heap.cell_at h, Nat.zero_add, ← Array.getElem?_toList]; exact hj⟩
theorem wrap_byte (z : Int) : IntKind.u8.wrap z = ((byteAt z 0).toNat : Int) := by
  rw [u8_wrap, byteAt_int z 0 (by decide)]
  simp
/-- A new row, all of whose cells are told. -/
theorem mine_blk {F0 F : Heap} {b n c z : Nat} {cs : Array Value} {e : TypeId} (hE : Ext F0 F) (h0 : F0 b = none) (hb : F b = some (.cells cs e)) (hc : cs.size = c * z) (hn : n ≤ c) : Mine F0 F (.slice (some ⟨b, 0, none⟩) n c) e z n (cs.toList.take (n * z)) :=
  ⟨⟨by rw [List.length_take, Array.length_toList, hc]; exact Nat.min_eq_left (Nat.mul_le_mul_right _ hn), .inr ⟨b, c, cs, rfl, ⟨_, hb, .inl (Nat.le_refl _)⟩, hc, hn, rfl⟩⟩, fun k hk => (by obtain rfl : b = k := Option.some.inj hk; exact h0), hE⟩
theorem Ext.none {F G : Heap} (h : Ext F G) {b : Nat} (hb : G b = none) : F b = none := by
  cases e : F b with
  | none => rfl
  | some o => rw [h _ _ e] at hb; cases hb
theorem args_eq {P : Program} {f : FuncId} {as as' : Array Value} {F : Heap} {R : Value → Heap → Prop} (e : as = as') (h : FnK P f as F R) : FnK P f as' F R := e ▸ h
theorem slice_eq {A A' : Option Addr} {n n' c c' : Nat} (h1 : A = A') (h2 : n = n') (h3 : c = c') : Value.slice A n c = .slice A' n' c' := by rw [h1, h2, h3]
/-- F without some blocks. -/
def lessL (F : Heap) (ms : List Nat) : Heap := fun c => if c ∈ ms then none else F c
theorem lessL_ext (F : Heap) (ms : List Nat) : Ext (lessL F ms) F := fun c o h => by
  unfold lessL at h
  split at h
  · cases h
  · exact h
theorem lessL_none {F : Heap} {ms : List Nat} {m : Nat} (h : m ∈ ms) : lessL F ms m = none := if_pos h
theorem lessL_at {F : Heap} {ms : List Nat} {b : Nat} (h : b ∉ ms) : lessL F ms b = F b := if_neg h
theorem ext_lessL {G F : Heap} {ms : List Nat} (hE : Ext G F) (h : ∀ m ∈ ms, G m = none) : Ext G (lessL F ms) := fun c o hc => by
  rw [lessL_at (fun e => by rw [h c e] at hc; cases hc)]
  exact hE _ _ hc
theorem rowAt_lessL {F : Heap} {A : Option Addr} {vs : List Value} {ms : List Nat} (hr : RowAt F A vs) (h : ∀ a, A = some a → a.block ∉ ms) : RowAt (lessL F ms) A vs := fun j v hj => by
  obtain ⟨a, h1, h2⟩ := hr j v hj
  refine ⟨a, h1, ?_⟩
  unfold Heap.cell? at h2 ⊢
  rw [lessL_at (by rw [add_block]; exact h a h1)]
  exact h2
theorem rowAt_keepq {F F' : Heap} {A : Option Addr} {vs : List Value} {q : Nat} (hr : RowAt F A vs) (hk : Keeps F F' (some q)) (h : ∀ a, A = some a → a.block ≠ q) : RowAt F' A vs := fun j v hj => by
  obtain ⟨a, h1, h2⟩ := hr j v hj
  refine ⟨a, h1, ?_⟩
  obtain ⟨c, e, fz, h3, h4, h5⟩ := cell_block h2
  have h6 := hk _ _ h3 (fun e => h a h1 (by rw [add_block] at e; exact (Option.some.inj e).symm))
  unfold Heap.cell?
  rw [h6]
  simp only [h4, Option.isSome_none, Bool.false_eq_true, if_false]
  exact h5
theorem Mine.up {F0 G F : Heap} {S : Value} {e z n : Nat} {vs : List Value} (h : Mine F0 F S e z n vs) (hE : Ext G F) (hb : ∀ b, blk S = some b → G b = none) : Mine G F S e z n vs := ⟨h.own, hb, hE⟩
theorem Own.there {F : Heap} {S : Value} {e z n w : Nat} {vs : List Value} (h : Own F S e z n vs) (hw : blk S = some w) : F w ≠ none := by
  rcases h.2 with ⟨h1, _⟩ | ⟨b, c, cs', h1, ⟨fz', hb, _⟩, _⟩
  · subst h1; cases hw
  · subst h1
    obtain rfl : b = w := Option.some.inj hw
    rw [hb]
    simp
/-- A new row of bytes. -/
def NewRow (F F' : Heap) (v : Value) (l : List UInt8) : Prop := ∃ A c, v = .slice A l.length c ∧ l.length ≤ c ∧ RowAt F' A (bytesOf l) ∧ ∀ a, A = some a → F a.block = none
theorem Mine.newRow {F F' : Heap} {v : Value} {l : List UInt8} {e : TypeId} (h : Mine F F' v e 1 l.length (bytesOf l)) : NewRow F F' v l := by
  obtain ⟨A, c, rfl, h1, h2⟩ := h.own.row
  exact ⟨A, c, rfl, h1, h2, fun a ha => by subst ha; exact h.fresh a.block rfl⟩
/-- The bytes of a cut with three numbers. -/
theorem row_cut3 {F : Heap} {A : Option Addr} {b : List UInt8} (lo n m l : Nat) (hr : RowAt F A (bytesOf b)) (hl : l = lo) (hm : lo + n ≤ m) (hle : lo + n ≤ b.length) : RowAt F (if m = l then A else A.map (·.add (l * 1))) (bytesOf ((b.drop lo).take n)) := by
  subst hl
  intro j v hj
  have hj2 : j < n := by
    have := (List.getElem?_eq_some_iff.1 hj).1
    simp [bytesOf] at this
    omega
  have hj' : (bytesOf b)[l + j]? = some v := by
    unfold bytesOf at hj
    rw [List.getElem?_map, List.getElem?_take, if_pos hj2, List.getElem?_drop] at hj
    rw [bytesOf, List.getElem?_map]
    exact hj
  obtain ⟨ad, h1, h2⟩ := hr _ _ hj'
  subst h1
  rw [if_neg (by omega), Nat.mul_one]
  exact ⟨ad.add l, rfl, by rw [add_add]; exact h2⟩
/-- A store that is followed at once by what is known of the new block. -/
theorem put_ext {F : Heap} {p : Nat} {o : Obj} (hp : F p = none) : Ext F (F.put p o) := Ext.new hp o
end Go.Al
