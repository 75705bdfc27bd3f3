/- Det, part C: what an operation does, on abstract values and heaps. -/
import Derived.Test.YtddblfiinmbifaaGreatDetB
import GoSem.Dispatch
namespace Go.Det

structure TI where
  size : Nat
  bytes : Nat
  zero : Option Value

structure Tb where
  und : TypeId → Option TypeDesc
  inf : TypeId → Option TI
  fn : FuncId → Option Func

structure Tb.Ok (tb : Tb) (P : Program) : Prop where
  und : ∀ t d, tb.und t = some d → P.underlying t = some d
  inf : ∀ t x, tb.inf t = some x → ∃ i, P.info? t = some i ∧ i.size = x.size ∧ i.bytes = x.bytes ∧ i.zero = x.zero
  zf : ∀ t x z, tb.inf t = some x → x.zero = some z → flat z = true
  fn : ∀ f x, tb.fn f = some x → P.funcs[f]? = some x ∧ (x.name == "runtime.NumGoroutine") = false
  mixed : P.follows .mixedOrders = true

/-- the tables of a program -/
def tbOf (P : Program) : Tb where
  und := P.underlying
  inf t := match P.info? t with
    | some i => match i.zero with
      | some z => if flat z then some ⟨i.size, i.bytes, some z⟩ else none
      | none => some ⟨i.size, i.bytes, none⟩
    | none => none
  fn f := match P.funcs[f]? with
    | some x => if x.name == "runtime.NumGoroutine" then none else some x
    | none => none

theorem tbOf_ok {P : Program} (hm : P.follows .mixedOrders = true) : (tbOf P).Ok P where
  und _ _ h := h
  inf t x h := by
    simp only [tbOf] at h
    split at h
    · rename_i i hi
      split at h
      · rename_i z hz
        split at h
        · cases h; exact ⟨i, hi, rfl, rfl, hz⟩
        · cases h
      · rename_i hz; cases h; exact ⟨i, hi, rfl, rfl, hz⟩
    · cases h
  zf t x z h hz := by
    simp only [tbOf] at h
    split at h
    · split at h
      · split at h
        · rename_i hf; cases h; cases hz; exact hf
        · cases h
      · cases h; cases hz
    · cases h
  fn f x h := by
    simp only [tbOf] at h
    split at h
    · rename_i y hy
      split at h
      · cases h
      · rename_i hn; cases h; exact ⟨hy, by simpa using hn⟩
    · cases h
  mixed := hm

/-! ## fast arithmetic -/
def half : IntKind → Nat
  | .i8 => 128 | .i16 => 32768 | .i32 => 2147483648 | .i64 => 9223372036854775808
  | .u8 => 256 | .u16 => 65536 | .u32 => 4294967296 | .u64 => 18446744073709551616

def wrapF (k : IntKind) (n : Int) : Int :=
  match n with
  | .ofNat m => if Nat.blt m (half k) then .ofNat m else k.wrap (.ofNat m)
  | .negSucc m => if k.signed && Nat.blt m (half k) then .negSucc m else k.wrap (.negSucc m)

theorem wrap_id (k : IntKind) (n : Int) (h1 : k.min ≤ n) (h2 : n ≤ k.max) : k.wrap n = n := by
  cases k <;> simp only [IntKind.min, IntKind.max, IntKind.bits, IntKind.signed, if_true, if_false, Bool.false_eq_true] at h1 h2 <;>
    simp only [IntKind.wrap, IntKind.bits, IntKind.signed, Bool.true_and, Bool.false_and, Bool.false_eq_true, if_false] <;>
    first | omega | (split <;> rename_i h <;> first | (have h' := of_decide_eq_true h; omega) | (have h' := of_decide_eq_false (by simpa only [Bool.not_eq_true] using h); omega))

theorem wrapF_eq (k : IntKind) (n : Int) : wrapF k n = k.wrap n := by
  cases n with
  | ofNat m =>
    simp only [wrapF]
    split
    · rename_i h
      have h : m < half k := by simpa only [Nat.blt_eq] using h
      refine (wrap_id k _ ?_ ?_).symm <;> cases k <;> simp only [half] at h <;>
        simp only [IntKind.min, IntKind.max, IntKind.bits, IntKind.signed, if_true, if_false, Bool.false_eq_true, Int.ofNat_eq_natCast] <;> omega
    · rfl
  | negSucc m =>
    simp only [wrapF]
    split
    · rename_i h
      simp only [Bool.and_eq_true] at h
      obtain ⟨h0, h⟩ := h
      have h : m < half k := by simpa only [Nat.blt_eq] using h
      refine (wrap_id k _ ?_ ?_).symm <;> cases k <;> simp only [half] at h <;> first
        | (exact absurd h0 (by decide))
        | (simp only [IntKind.min, IntKind.max, IntKind.bits, IntKind.signed, if_true, if_false, Bool.false_eq_true]; omega)
    · rfl

def iop (op : BinOp) (k : IntKind) (a b : Int) : Option Value :=
  match op with
  | .add => some (.int k (wrapF k (a + b)))
  | .sub => some (.int k (wrapF k (a - b)))
  | .mul => some (.int k (wrapF k (a * b)))
  | .quo => if b = 0 then none else some (.int k (wrapF k (a.tdiv b)))
  | .rem => if b = 0 then none else some (.int k (a.tmod b))
  | .and => some (.int k (wrapF k (BitVec.ofInt k.bits a &&& BitVec.ofInt k.bits b).toNat))
  | .or => some (.int k (wrapF k (BitVec.ofInt k.bits a ||| BitVec.ofInt k.bits b).toNat))
  | .xor => some (.int k (wrapF k (BitVec.ofInt k.bits a ^^^ BitVec.ofInt k.bits b).toNat))
  | .andNot => some (.int k (wrapF k (BitVec.ofInt k.bits a &&& ~~~ BitVec.ofInt k.bits b).toNat))
  | .eql => some (.bool (a == b))
  | .neq => some (.bool (a != b))
  | .lss => some (.bool (a < b))
  | .leq => some (.bool (a ≤ b))
  | .gtr => some (.bool (a > b))
  | .geq => some (.bool (a ≥ b))
  | .shl | .shr => none

/-- x * 2 ^ n -/
def shlF (x : Int) (n : Nat) : Int :=
  match x with
  | .ofNat m => .ofNat (m * 2 ^ n)
  | .negSucc m => .negSucc m * 2 ^ n
def shrF (x : Int) (n : Nat) : Int :=
  match x with
  | .ofNat m => .ofNat (m / 2 ^ n)
  | .negSucc m => (Int.negSucc m).fdiv (2 ^ n)

theorem shlF_eq (x : Int) (n : Nat) : shlF x n = x * 2 ^ n := by
  cases x with
  | ofNat m => simp [shlF, Int.ofNat_eq_natCast]
  | negSucc m => rfl
theorem shrF_eq (x : Int) (n : Nat) : shrF x n = x.fdiv (2 ^ n) := by
  cases x with
  | ofNat m =>
    simp only [shrF, Int.ofNat_eq_natCast]
    have : ((2 : Int) ^ n) = ((2 ^ n : Nat) : Int) := by simp
    rw [this, Int.fdiv_eq_ediv_of_nonneg _ (Int.natCast_nonneg _)]; rfl
  | negSucc m => rfl

def shop (op : BinOp) (k : IntKind) (a : Int) (b : Int) : Option Value :=
  if b < 0 then none else
    match op with
    | .shl => some (.int k (wrapF k (shlF a (min b.toNat k.bits))))
    | .shr => some (.int k (shrF a (min b.toNat k.bits)))
    | _ => none

/-- a Sem that looks at nothing but the program -/
def pureRun {α : Type} (P : Program) : Sem α → Option α
  | .pure a => some a
  | .program k => pureRun P (k P)
  | _ => none

theorem pureRun_run {α : Type} {P : Program} {s : Sem α} {a : α} (h : pureRun P s = some a) (w : World) : s.run P w = .ok a w := by
  induction s with
  | pure b => simp [pureRun] at h; subst h; rfl
  | program k ih => exact ih P h
  | _ => simp [pureRun] at h

def isEq : BinOp → Option Bool
  | .eql => some false
  | .neq => some true
  | _ => none

/-- is a value nil, for its kind: none: it is no value that can be nil -/
def nilness : Value → Option Bool
  | .pointer a => some a.isNone
  | .slice a _ _ => some a.isNone
  | .map a => some a.isNone
  | .nilFunc => some true
  | .func .. => some false
  | .nilIface => some true
  | .iface .. => some false
  | _ => none

def vtag : Value → Nat
  | .pointer _ => 1
  | .slice .. => 2
  | .map _ => 3
  | .nilFunc => 4
  | .func .. => 5
  | .nilIface => 6
  | .iface .. => 7
  | _ => 0

def sameKind (D : TypeDesc) (x y : Value) : Bool :=
  match D with
  | .pointer _ => vtag x == 1 && vtag y == 1
  | .slice _ => vtag x == 2 && vtag y == 2
  | .map .. => vtag x == 3 && vtag y == 3
  | .func .. => (vtag x == 4 && vtag y == 5) || (vtag x == 5 && vtag y == 4)
  | .interface _ => (vtag x == 6 && vtag y == 7) || (vtag x == 7 && vtag y == 6)
  | _ => false

def binF (P : Program) (tb : Tb) (op : BinOp) (t : TypeId) (ox oy : Operand) (x y : Value) : Option Value :=
  match x, y with
  | .int k a, .int k' b =>
    match op with
    | .shl | .shr => shop op k a b
    | _ => if k = k' then iop op k a b else none
  | _, _ =>
    if flat x && flat y then
      match pureRun P (do eqGuard op t ox oy x y; binOp op t x y) with
      | some v => if flat v then some v else none
      | none => none
    else
      match isEq op, tb.und t, nilness x, nilness y with
      | some neg, some d, some a, some b => if sameKind d x y && (a || b) then some (.bool ((a && b) != neg)) else none
      | _, _, _, _ => none

def unF (op : UnOp) (x : Value) : Option Value :=
  match op, x with
  | .neg, .int k n => some (.int k (wrapF k (0 - n)))
  | .not, .bool b => some (.bool !b)
  | _, _ => none

/-! ## reading and writing rows -/
def St.cellsAt (σ : St) (n : Nat) : Option (List Value) :=
  match σ.hp.get n with
  | some (.cells cs) => some cs
  | _ => none

def ldCells (σ : St) (n off k : Nat) : Option (List Value) :=
  match σ.cellsAt n with
  | some cs => if k = 0 then some [] else let l := (cs.drop off).take k; if l.length = k then some l else none
  | none => none

def ldVar (tb : Tb) (t : TypeId) (σ : St) (a : Value) : Option Value :=
  match a with
  | .pointer (some ⟨n, o, none⟩) =>
    match tb.und t with
    | some (.struct _) | some (.array _ _) =>
      match tb.inf t with
      | some x => match ldCells σ n o x.size with | some l => some (.agg l.toArray) | none => none
      | none => none
    | some _ => match σ.cellsAt n with | some cs => cs[o]? | none => none
    | none => none
  | _ => none

def setAt : List Value → Nat → Value → Option (List Value)
  | [], _, _ => none
  | _ :: l, 0, v => some (v :: l)
  | c :: l, n + 1, v => match setAt l n v with
    | some l' => some (c :: l')
    | none => none

def putCells (cs : List Value) (off : Nat) (vs : List Value) : Option (List Value) :=
  match vs with
  | [v] => setAt cs off v
  | _ => if off + vs.length ≤ cs.length then some (cs.take off ++ vs ++ cs.drop (off + vs.length)) else none

def St.with (σ : St) (n : Nat) (o : Option Ob) : St := { σ with hp := σ.hp.set n o }

def stCells (σ : St) (n off : Nat) (vs : List Value) : Option St :=
  match σ.cellsAt n with
  | some cs =>
    if vs.all Value.oneCell' then
      match putCells cs off vs with
      | some cs' => some (σ.with n (some (.cells cs')))
      | none => none
    else none
  | none => none

def stVar (tb : Tb) (t : TypeId) (σ : St) (a v : Value) : Option St :=
  match a, tb.inf t with
  | .pointer (some ⟨n, o, none⟩), some x => if v.cells.size = x.size then stCells σ n o v.cells.toList else none
  | _, _ => none

def St.new (σ : St) (o : Ob) : St := { hp := σ.hp.set σ.next (some o), next := σ.next + 1 }

def newVal (σ : St) (cs : List Value) : Value × St := (.pointer (some ⟨σ.next, 0, none⟩), σ.new (.cells cs))

/-! ## operations by kind -/
def reps (zero : List Value) (n : Nat) : List Value := (List.replicate n zero).flatten

def fieldPl (tb : Tb) (f : Field) : Option (Nat × Nat) := (tb.inf f.type).map fun x => (f.offset, x.size)
def fieldsF (tb : Tb) (fs : Array Field) : Option (List (Nat × Nat)) := fs.toList.mapM (fieldPl tb)
def opPart (ρ : Operand → Option Value) (p : Nat × Operand) : Option (Nat × Value) := (ρ p.2).map fun v => (p.1, v)

def bound (o : Option Value) (dflt lim : Nat) : Option Nat :=
  match o with
  | none => some dflt
  | some (.int _ i) => match i with
    | .ofNat m => if m ≤ lim then some m else none
    | .negSucc _ => none
  | _ => none

/-- low, high, of what can be cut up to lim; len is the default -/
def bounds (len lim : Nat) (lo hi : Option Value) : Option (Nat × Nat) :=
  match bound hi len lim with
  | some h => match bound lo 0 h with
    | some l => some (l, h)
    | none => none
  | none => none

def partF (tb : Tb) (t : TypeId) (cs : List Value) (off : Nat) : Option Value :=
  match tb.und t with
  | some (.struct _) | some (.array _ _) =>
    match tb.inf t with
    | some x => some (.agg ((cs.drop off).take x.size).toArray)
    | none => none
  | some _ => cs[off]?
  | none => none

def natOf : Value → Option Nat
  | .int _ (.ofNat m) => some m
  | _ => none

/-- operations that look at values alone -/
def pureF (P : Program) (tb : Tb) (ρ : Operand → Option Value) (op : Op) : Option Value :=
  match op with
  | .move x | .assign x => ρ x
  | .pick c a b => match ρ c with
    | some (.bool t) => match ρ a, ρ b with | some va, some vb => some (if t then va else vb) | _, _ => none
    | _ => none
  | .binOp op t x y _ => match ρ x, ρ y with | some a, some b => binF P tb op t x y a b | _, _ => none
  | .unOp op _ x => match ρ x with | some a => unF op a | none => none
  | .nilCheck x => match ρ x with
    | some (.pointer (some a)) => some (.pointer (some a))
    | some (.func (.func f) fi ca) => some (.func (.func f) fi ca)
    | _ => none
  | .convert src dst x =>
    match tb.und src, tb.und dst, ρ x with
    | some _, some (.int k), some (.int _ n) => some (.int k (wrapF k n))
    | some _, some .string, some (.string s) => some (.string s)
    | _, _, _ => none
  | .makeInterface t x => match tb.und t, ρ x with
    | some (.interface _), _ => none
    | some _, some v => some (.iface t v)
    | _, _ => none
  | .makeFunc fn first captured =>
    match fn, first.toList.mapM ρ, captured.toList.mapM ρ with
    | .func f, some a, some b => some (.func (.func f) a.toArray b.toArray)
    | _, _, _ => none
  | .fieldAddr s x f =>
    match tb.und s, ρ x with
    | some (.struct fs), some (.pointer (some ⟨n, o, none⟩)) =>
      match fs[f]? with
      | some fd => match tb.inf fd.type with
        | some ti => if ti.size = 0 then none else some (.pointer (some ⟨n, o + fd.offset, none⟩))
        | none => none
      | none => none
    | _, _ => none
  | .field s x f =>
    match tb.und s, ρ x with
    | some (.struct fs), some (.agg cs) =>
      match fs[f]? with
      | some fd => partF tb fd.type cs.toList fd.offset
      | none => none
    | _, _ => none
  | .indexAddr t x ix =>
    match tb.und t, ρ x, ρ ix with
    | some (.slice elem), some (.slice (some ⟨n, o, none⟩) len _), some i =>
      match natOf i, tb.inf elem with
      | some m, some ti => if m < len then some (.pointer (some ⟨n, o + m * ti.size, none⟩)) else none
      | _, _ => none
    | some (.array len elem), some (.pointer (some ⟨n, o, none⟩)), some i =>
      match natOf i, tb.inf elem with
      | some m, some ti => if m < len then some (.pointer (some ⟨n, o + m * ti.size, none⟩)) else none
      | _, _ => none
    | _, _, _ => none
  | .index t x ix =>
    match tb.und t, ρ x, ρ ix with
    | some (.array len elem), some (.agg cs), some i =>
      match natOf i, tb.inf elem with
      | some m, some ti => if m < len then partF tb elem cs.toList (m * ti.size) else none
      | _, _ => none
    | some .string, some (.string s), some i =>
      match natOf i with
      | some m => match s.data.toList[m]? with | some b => some (.int .u8 b.toNat) | none => none
      | none => none
    | _, _, _ => none
  | .extract t i => match ρ t with | some (.tuple vs) => vs.toList[i]? | _ => none
  | .build t parts =>
    match parts.toList.mapM (opPart ρ), tb.inf t, tb.und t with
    | some ps, some ⟨_, _, some z⟩, some (.struct fs) =>
      match fieldsF tb fs with
      | some pl => match Instr.fill (pl[·]?) z.cells ps with | some cs => some (.agg cs) | none => none
      | none => none
    | some ps, some ⟨_, _, some z⟩, some (.array _ elem) =>
      match tb.inf elem with
      | some te => match Instr.fill (fun i => some (i * te.size, te.size)) z.cells ps with | some cs => some (.agg cs) | none => none
      | none => none
    | _, _, _ => none
  | .slice t x lo hi none =>
    match (match lo with | none => some none | some o => (ρ o).map some), (match hi with | none => some none | some o => (ρ o).map some) with
    | some vlo, some vhi =>
      match tb.und t, ρ x with
      | some .string, some (.string s) =>
        match bounds s.size s.size vlo vhi with
        | some (l, h) => some (.string (s.extract l h))
        | none => none
      | some (.slice elem), some (.slice none 0 0) =>
        match bounds 0 0 vlo vhi, tb.inf elem with
        | some _, some _ => some (.slice none 0 0)
        | _, _ => none
      | some (.slice elem), some (.slice (some ⟨n, o, none⟩) len cap) =>
        match bounds len (if unk ≤ cap then len else cap) vlo vhi, tb.inf elem with
        | some (l, h), some ti =>
          if unk ≤ cap then
            if cap = unk + ti.size then some (.slice (some ⟨n, (if l < h then o + l * ti.size else o), none⟩) (h - l) cap) else none
          else some (.slice (some ⟨n, (if cap = l then o else o + l * ti.size), none⟩) (h - l) (cap - l))
        | _, _ => none
      | some (.array len elem), some (.pointer (some ⟨n, o, none⟩)) =>
        match bounds len len vlo vhi, tb.inf elem with
        | some (l, h), some ti => if len < unk then some (.slice (some ⟨n, (if len = l then o else o + l * ti.size), none⟩) (h - l) (len - l)) else none
        | _, _ => none
      | _, _ => none
    | _, _ => none
  | .call { callee := .builtin .len, args, argTypes } =>
    match args.toList.mapM ρ, argTypes[0]? with
    | some [x], some t =>
      match tb.und t, x with
      | some .string, .string s => some (.int .i64 s.size)
      | some (.array n _), _ => some (.int .i64 n)
      | some (.slice _), .slice _ n _ => some (.int .i64 n)
      | some (.map _ _), .map none => some (.int .i64 0)
      | _, _ => none
    | _, _ => none
  | .call { callee := .builtin .min, args, argTypes := _ } =>
    match args.toList.mapM ρ with
    | some (.int k a :: rest) => rest.foldlM (fun x y => match x, y with
        | .int k x, .int _ y => some (.int k (if y < x then y else x))
        | _, _ => none) (.int k a)
    | _ => none
  | .call { callee := .builtin .max, args, argTypes := _ } =>
    match args.toList.mapM ρ with
    | some (.int k a :: rest) => rest.foldlM (fun x y => match x, y with
        | .int k x, .int _ y => some (.int k (if y > x then y else x))
        | _, _ => none) (.int k a)
    | _ => none
  | _ => none

def bytesOfCells : List Value → Option (List UInt8)
  | [] => some []
  | .int .u8 (.ofNat m) :: l => match bytesOfCells l with | some bs => some (UInt8.ofNat m :: bs) | none => none
  | _ :: _ => none

/-- operations that read the heap and change nothing -/
def readF (tb : Tb) (ρ : Operand → Option Value) (op : Op) (σ : St) : Option Value :=
  match op with
  | .load t a => match ρ a with | some p => ldVar tb t σ p | none => none
  | .convert src dst x =>
    match tb.und src, tb.und dst, ρ x with
    | some (.slice e), some .string, some (.slice a len _) =>
      match tb.und e with
      | some (.int .u8) =>
        match a with
        | none => some (.string .empty)
        | some ⟨n, o, none⟩ => match ldCells σ n o len with
          | some l => match bytesOfCells l with | some bs => some (.string ⟨bs.toArray⟩) | none => none
          | none => none
        | _ => none
      | _ => none
    | _, _, _ => none
  | _ => none

/-- operations that make something new and change nothing that was there -/
def allocF (tb : Tb) (ρ : Operand → Option Value) (op : Op) (σ : St) : Option (Value × St) :=
  match op with
  | .alloc t => match tb.inf t with
    | some ⟨_, _, some z⟩ => some (newVal σ z.cells.toList)
    | _ => none
  | .box _ x => match ρ x with
    | some v => some (newVal σ v.cells.toList)
    | none => none
  | .buildSlice t len parts =>
    match parts.toList.mapM (opPart ρ), tb.und t with
    | some ps, some (.slice elem) =>
      match tb.inf elem with
      | some ⟨size, _, z⟩ =>
        if len * size > 2 ^ 24 then none else if len ≥ unk then none else
        match (if len * size = 0 then some [] else match z with | some z => some z.cells.toList | none => none) with
        | some zc =>
          if len * size = 0 ∨ zc.length = size then
            match Instr.fill (fun i => some (i * size, size)) (reps zc len).toArray ps with
            | some cs => some (.slice (some ⟨σ.next, 0, none⟩) len len, σ.new (.cells cs.toList))
            | none => none
          else none
        | none => none
      | none => none
    | _, _ => none
  | .makeSlice t l c =>
    match tb.und t, ρ l, ρ c with
    | some (.slice elem), some (.int _ (.ofNat len)), some (.int _ (.ofNat cap)) =>
      match tb.inf elem with
      | some ⟨size, bytes, z⟩ =>
        if len ≤ cap ∧ cap ≤ 281474976710656 ∧ bytes * cap ≤ 281474976710656 then
          match (if cap * size = 0 then some [] else match z with | some z => some z.cells.toList | none => none) with
          | some zc => if cap * size = 0 ∨ zc.length = size then some (.slice (some ⟨σ.next, 0, none⟩) len cap, σ.new (.cells (reps zc cap))) else none
          | none => none
        else none
      | none => none
    | _, _, _ => none
  | .convert src dst x =>
    match tb.und src, tb.und dst, ρ x with
    | some .string, some (.slice e), some (.string s) =>
      match tb.und e with
      | some (.int .u8) => some (.slice (some ⟨σ.next, 0, none⟩) s.size (unk + 1), σ.new (.cells (s.data.toList.map fun b => .int .u8 b.toNat)))
      | _ => none
    | _, _, _ => none
  | .makeMap _ none => some (.map (some σ.next), σ.new (.map [] 0))
  | _ => none

/-- the cells of what is appended or copied: n elements of a slice or a string -/
def srcCells (σ : St) (size n : Nat) (x : Value) : Option (List Value) :=
  match x with
  | .slice none _ _ => some []
  | .slice (some ⟨b, o, none⟩) _ _ => ldCells σ b o (n * size)
  | .string s => some ((s.data.toList.take n).map fun b => .int .u8 b.toNat)
  | _ => none

def lenF : Value → Option Nat
  | .slice _ n _ => some n
  | .string s => some s.size
  | _ => none

def appendF (tb : Tb) (elem : TypeId) (σ : St) (s x : Value) : Option (Value × St) :=
  match tb.inf elem, s, lenF x with
  | some ⟨size, bytes, some z⟩, .slice base sLen sCap, some n =>
    match srcCells σ size n x with
    | none => none
    | some xs =>
      if !(xs.all Value.oneCell') || bytes = 0 || !(xs.length = n * size) || z.cells.size != size then none else
      match base with
      | none => if sLen = 0 ∧ sCap = 0 then (if n = 0 then some (.slice none 0 0, σ) else
          if n * bytes ≤ 140737488355328 then some (.slice (some ⟨σ.next, 0, none⟩) n (unk + size), σ.new (.cells xs)) else none) else none
      | some ⟨b, o, none⟩ =>
        if unk ≤ sCap then
          if sLen = 0 ∨ sCap ≠ unk + size then none
          else if n = 0 then some (s, σ)
          else if (sLen + n) * bytes ≤ 140737488355328 then
            match ldCells σ b o (sLen * size) with
            | some old => some (.slice (some ⟨σ.next, 0, none⟩) (sLen + n) (unk + size), (σ.with b none).new (.cells (old ++ xs)))
            | none => none
          else none
        else if sLen + n ≤ sCap then
          match stCells σ b (o + sLen * size) xs with
          | some σ' => some (.slice base (sLen + n) sCap, σ')
          | none => none
        else if (sLen + n) * bytes ≤ 140737488355328 then
          match ldCells σ b o (sLen * size) with
          | some old => some (.slice (some ⟨σ.next, 0, none⟩) (sLen + n) (unk + size), σ.new (.cells (old ++ xs)))
          | none => none
        else none
      | _ => none
  | _, _, _ => none

def copyF (tb : Tb) (elem : TypeId) (σ : St) (d x : Value) : Option (Value × St) :=
  match tb.inf elem, d, lenF x with
  | some ti, .slice base dLen _, some n0 =>
    let n := Nat.min n0 dLen
    match srcCells σ ti.size n x with
    | none => none
    | some xs =>
      if !(xs.all Value.oneCell') then none else
      match base with
      | none => if xs.isEmpty then some (.int .i64 n, σ) else none
      | some ⟨b, o, none⟩ => if xs.isEmpty then some (.int .i64 n, σ) else
        match stCells σ b o xs with | some σ' => some (.int .i64 n, σ') | none => none
      | _ => none
  | _, _, _ => none

/-- operations that change what is there -/
def actF (tb : Tb) (ρ : Operand → Option Value) (op : Op) (σ : St) : Option (Value × St) :=
  match op with
  | .store t a x => match ρ a, ρ x with
    | some p, some v => match stVar tb t σ p v with | some σ' => some (undef, σ') | none => none
    | _, _ => none
  | .convert src dst x =>
    match tb.und src, tb.und dst, ρ x with
    | some (.slice _), some (.slice e), some (.slice (some ⟨n, o, none⟩) len cap) =>
      match tb.und e with
      | some (.int .u8) =>
        if src = dst ∧ (cap < unk ∨ 0 < len) then
          match σ.cellsAt n with
          | some cs => some (.slice (some ⟨n, o, none⟩) len cap, σ.with n (some (.cells cs)))
          | none => none
        else none
      | _ => none
    | _, _, _ => none
  | .call { callee := .builtin .append, args, argTypes } =>
    match args.toList.mapM ρ, argTypes[0]?, argTypes[1]? with
    | some [s, x], some t, some tx => match tb.und t, tb.und tx with
      | some (.slice elem), some dx => if (match dx with | .int _ => true | _ => false) then none else appendF tb elem σ s x
      | _, _ => none
    | _, _, _ => none
  | .call { callee := .builtin .copy, args, argTypes } =>
    match args.toList.mapM ρ, argTypes[0]? with
    | some [s, x], some t => match tb.und t with
      | some (.slice elem) => copyF tb elem σ s x
      | _ => none
    | _, _ => none
  | _ => none

inductive Kd where
  | pure | read | alloc | act | call
  deriving DecidableEq

def kindOf (tb : Tb) : Op → Kd
  | .load .. => .read
  | .convert src dst _ => match tb.und dst with
    | some (.slice _) => match tb.und src with | some (.slice _) => .act | _ => .alloc
    | _ => .read
  | .alloc _ | .box .. | .buildSlice .. | .makeSlice .. | .makeMap .. => .alloc
  | .store .. => .act
  | .call { callee := .builtin .append, .. } | .call { callee := .builtin .copy, .. } => .act
  | .call { callee := .builtin _, .. } => .pure
  | .call _ => .call
  | .move _ | .assign _ | .pick .. | .binOp .. | .unOp .. | .nilCheck _ | .makeInterface .. | .makeFunc .. | .fieldAddr .. | .field .. | .indexAddr ..
  | .index .. | .extract .. | .build .. | .slice .. => .pure
  | _ => .act

end Go.Det
