/-
  All functions that were printed. Own work, written by a program of this session's (gen.py).
-/
import Derived.Test.YtpjhcllohagjoaaF9
